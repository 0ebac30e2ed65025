/-
  The loop of the search of package content.
-/
import Derived.Test.YtkmommchanjobaaContF
namespace Go.Proofs.Ytkmommchanjobaa
set_option linter.unusedSimpArgs false
set_option linter.unusedVariables false
open Go
/-- The variables of one call of the search. -/
structure Fm (h0 h : Heap) (b s3 i4 c10 at_ : Nat) (i : Nat) (c : Cn) (p : Int) : Prop where
  a3 : ∃ t, h[s3]? = some (.cells #[.pointer (some ⟨b, 0, none⟩)] t (0, 0))
  a4 : ∃ t, h[i4]? = some (.cells #[.int .i64 (i : Int)] t (0, 0))
  ac : CnAt h ⟨c10, 0, none⟩ c
  aa : ∃ t, h[at_]? = some (.cells #[.int .i64 p] t (0, 0))
  fr : Fr (· = b) h0 h
  n : s3 ≠ b ∧ i4 ≠ b ∧ c10 ≠ b ∧ at_ ≠ b ∧ at_ ≠ s3 ∧ at_ ≠ i4 ∧ at_ ≠ c10
  o : h0.size ≤ at_ ∧ b < h0.size
theorem Fm.go {h0 h h' : Heap} {b s3 i4 c10 at_ i : Nat} {c : Cn} {p : Int} (F : Fm h0 h b s3 i4 c10 at_ i c p) (f : Fr (· = b) h h') : Fm h0 h' b s3 i4 c10 at_ i c p := by
  obtain ⟨⟨t3, a3⟩, ⟨t4, a4⟩, ac, ⟨ta, aa⟩, fr, ⟨n1, n2, n3, n4, n5, n6, n7⟩, o⟩ := F
  exact ⟨⟨t3, f.get a3 n1⟩, ⟨t4, f.get a4 n2⟩, ac.fr f n3, ⟨ta, f.get aa n4⟩, fr.trans f, ⟨n1, n2, n3, n4, n5, n6, n7⟩, o⟩
theorem Fm.next {h0 h : Heap} {b s3 i4 c10 at_ i : Nat} {c : Cn} {p : Int} (F : Fm h0 h b s3 i4 c10 at_ i c p) (q : Int) : Fm h0 (hset h ⟨at_, 0, none⟩ (.int .i64 q)) b s3 i4 c10 at_ i c q := by
  obtain ⟨⟨t3, a3⟩, ⟨t4, a4⟩, ac, ⟨ta, aa⟩, fr, ⟨n1, n2, n3, n4, n5, n6, n7⟩, o⟩ := F
  have f : Fr (· = at_) h (hset h ⟨at_, 0, none⟩ (.int .i64 q)) := (Fr.refl _ _).hset' (.inl rfl)
  refine ⟨⟨t3, f.get a3 fun e => n5 e.symm⟩, ⟨t4, f.get a4 fun e => n6 e.symm⟩, ac.fr f fun e => n7 e.symm, ⟨ta, by simp only [nn, add_mk, ldI, ldB, ldS, ldP, ldL, ldM, ldV, hcell_mk, st1, stN, hfrozen_mk, hset_get, objSet, sliceSl, cellV, alV, push_get, and_assoc, objSet_cells, Option.isSome_some, Option.isSome_none, Option.isSome_map, Option.map_some, List.getElem?_toArray, List.getElem?_cons_zero, List.getElem?_cons_succ, List.getElem?_nil, List.setIfInBounds_toArray, List.set_cons_zero, List.set_cons_succ, Option.some.injEq, Value.int.injEq, Value.slice.injEq, Value.bool.injEq, Value.string.injEq, Value.pointer.injEq, Value.map.injEq, Value.agg.injEq, Value.tuple.injEq, true_and, and_true, if_true, if_false, ite_true, ite_false, Nat.reduceAdd, Nat.zero_add, Nat.add_zero, Nat.not_lt_zero, Nat.zero_le, decide_true, decide_false, Bool.and_false, Bool.false_eq_true, Bool.true_and, Bool.false_and, Nat.reduceLeDiff, Nat.reduceLT, Nat.le_refl, exists_eq_left', exists_eq_left, exists_eq_right, exists_and_left, exists_const, reduceCtorEq, false_and, and_false, Int.reduceToNat, Int.le_refl, aa]⟩, fr.tr f fun x hx hxa => ?_, ⟨n1, n2, n3, n4, n5, n6, n7⟩, o⟩
  have := o.1; omega
def atv (h : Heap) (a : Nat) : Int :=
  match hcell h ⟨a, 0, none⟩ with
  | some (.int _ n) => n
  | _ => 0
theorem Fm.atv {h0 h : Heap} {b s3 i4 c10 at_ i : Nat} {c : Cn} {p : Int} (F : Fm h0 h b s3 i4 c10 at_ i c p) : Go.Proofs.Ytkmommchanjobaa.atv h at_ = p := by
  obtain ⟨t, h⟩ := F.aa
  unfold Go.Proofs.Ytkmommchanjobaa.atv; rw [hcell_blk h]; rfl
def resV (r : Res) : Value := .tuple #[.int .i64 (r.1.getD 0), .bool r.1.isSome]
section
variable {b : Nat} {La : Option Addr} {lc : Nat} {Ta : Option Addr} {tc : Nat} {cs : List Cn} {ts : List Ts} {d : List UInt8} {N : Nat}
theorem loop_c [Gh] (hN : N < 2 ^ 40) (hd : d.length < 2 ^ 30) (hcl : cs.length < 2 ^ 40) {rest : List Cn} {i : Nat} (hi : i < cs.length) {c : Cn} (hc : OkC c) {cur : Int} (hcur : 0 ≤ cur ∧ cur ≤ d.length)
    (ih : ∀ (cur : Int), 0 ≤ cur ∧ cur ≤ d.length → ∀ {h : Heap} {left : Nat}, SS h b La lc Ta tc cs ts d N left false → ∀ {Q : Value → Heap → Prop},
      (∀ h', SS h' b La lc Ta tc cs ts d N (solve d ts rest cur left).2.1 (solve d ts rest cur left).2.2 → Fr (· = b) h h' → Q (resV (solve d ts rest cur left)) h') →
      CallT Try.prog fn_content_search_from #[.pointer (some ⟨b, 0, none⟩), .int .i64 ((i : Int) + 1), .int .i64 cur] h Q)
    {h0 h : Heap} (hLa : ∀ ad, La = some ad → 0 < cs.length → ad.block < h0.size) (hTa : ∀ ad, Ta = some ad → 0 < ts.length → ad.block < h0.size) {s3 i4 c10 at_ : Nat} {p last : Int} {left : Nat} (F : Fm h0 h b s3 i4 c10 at_ i c p) (S : SS h b La lc Ta tc cs ts d N left false) (hp : 0 ≤ p ∧ p < 2 ^ 40) (hlast : last ≤ d.length) {Q : Value → Heap → Prop}
    {R : Res} (hR : R = places d c (solve d ts rest) (fun left => if c.neg then solve d ts rest cur left else (none, left, false)) (last - p + 1).toNat p left)
    (hk : ∀ h', SS h' b La lc Ta tc cs ts d N R.2.1 R.2.2 → Fr (· = b) h0 h' → Q (resV R) h') :
    content_search_from_b14 cur ⟨s3, 0, none⟩ ⟨i4, 0, none⟩ ⟨c10, 0, none⟩ ⟨at_, 0, none⟩ last Q h := by
  simp only [content_search_from_b14]
  refine LoopV.mk (fun s h' => s = (⟨c10, 0, none⟩, ⟨at_, 0, none⟩, last, ⟨s3, 0, none⟩, ⟨c10, 0, none⟩, ⟨at_, 0, none⟩, ⟨i4, 0, none⟩) ∧ ∃ (p : Int) (left : Nat), Fm h0 h' b s3 i4 c10 at_ i c p ∧ SS h' b La lc Ta tc cs ts d N left false ∧ (0 ≤ p ∧ p < 2 ^ 40) ∧
      R = places d c (solve d ts rest) (fun left => if c.neg then solve d ts rest cur left else (none, left, false)) (last - p + 1).toNat p left) (fun _ h' => (last + 1 - atv h' at_).toNat) ⟨rfl, p, left, F, S, hp, hR⟩ ?_
  clear F S hp hR
  rintro s h1 ⟨rfl, p, left, F, S, hp, hR⟩
  simp only
  have hav := F.atv
  rw [hav]
  obtain ⟨⟨t3, a3⟩, ⟨t4, a4⟩, ac, ⟨ta, aa⟩, -, ⟨n1, n2, n3, n4, n5, n6, n7⟩, ho⟩ := id F
  simp only [content_search_from_l15, content_search_from_b16]
  refine ldI_mk (by rw [hcell_blk aa]; rfl) ?_
  by_cases hpl : p > last
  · rw [if_pos (by rw [decide_eq_true_eq]; exact hpl)]
    have e0 : (last - p + 1).toNat = 0 := by omega
    rw [e0, places] at hR
    simp only [content_search_from_b17, content_search_from_b18, content_search_from_b19]
    refine ldB_mk ac.c2 ?_
    cases hneg : c.neg with
    | true =>
      rw [if_pos rfl]
      rw [hneg, if_pos rfl] at hR
      refine ldP_mk (by rw [hcell_blk a3]; rfl) (ldI_mk (by rw [hcell_blk a4]; rfl) ?_)
      rw [wr (by omega) (by omega)]
      refine ih cur hcur S fun h2 s2 f2 => ⟨_, _, rfl, ?_⟩
      rw [← hR] at s2 ⊢
      exact hk h2 s2 (F.fr.trans f2)
    | false =>
      rw [if_neg (by simp)]
      rw [hneg, if_neg (by simp)] at hR
      have := hk h1 (by rw [hR]; exact S) F.fr
      rw [hR] at this
      exact this
  · rw [if_neg (by rw [decide_eq_true_eq]; exact hpl)]
    have e1 : (last - p + 1).toNat = (last - (p + 1) + 1).toNat + 1 := by omega
    rw [e1, places] at hR
    -- what follows a step that gave nothing
    have go : ∀ h2 (left2 : Nat), Fm h0 h2 b s3 i4 c10 at_ i c p → SS h2 b La lc Ta tc cs ts d N left2 false →
        R = places d c (solve d ts rest) (fun left => if c.neg then solve d ts rest cur left else (none, left, false)) (last - (p + 1) + 1).toNat (p + 1) left2 →
        ldI h2 ⟨at_, 0, none⟩ .i64 fun t93 => st1 h2 ⟨at_, 0, none⟩ (Value.int .i64 (IntKind.wrap .i64 (t93 + (1 : Int)))) fun h13 => (True ∧ ∃ (p : Int) (left : Nat), Fm h0 h13 b s3 i4 c10 at_ i c p ∧ SS h13 b La lc Ta tc cs ts d N left false ∧ (0 ≤ p ∧ p < 2 ^ 40) ∧
          R = places d c (solve d ts rest) (fun left => if c.neg then solve d ts rest cur left else (none, left, false)) (last - p + 1).toNat p left) ∧ (last + 1 - atv h13 at_).toNat < (last + 1 - p).toNat := by
      intro h2 left2 F2 S2 hR2
      obtain ⟨t2, aa2⟩ := F2.aa
      refine ldI_mk (by rw [hcell_blk aa2]; rfl) ?_
      rw [wr (by omega) (by omega)]
      have hnx := F2.next (p + 1)
      refine ⟨rfl, by rw [hcell_blk aa2]; rfl, hfrozen_blk aa2, ⟨trivial, p + 1, left2, hnx, ?_, ⟨by omega, by omega⟩, hR2⟩, ?_⟩
      · obtain ⟨⟨t, hb⟩, hrc, hrt, hle⟩ := S2
        have f : Fr (· = at_) h2 (hset h2 ⟨at_, 0, none⟩ (.int .i64 (p + 1))) := (Fr.refl _ _).hset' (.inl rfl)
        refine ⟨⟨t, f.get hb fun e => n4 e.symm⟩, ?_, ?_, hle⟩
        · exact hrc.fr2 f fun ad ha hc => by have := hLa ad ha hc; omega
        · exact hrt.fr2 f fun ad ha hc => by have := hTa ad ha hc; omega
      · rw [hnx.atv]; omega
    simp only [content_search_from_b20]
    refine content_search_from_1_s _ _ _ _ ?_
    simp only [content_search_from_1_b3, content_search_from_1_b6, content_search_from_1_b7, content_search_from_1_b5, content_search_from_1_b4, content_search_from_1_b2, content_search_from_1_b1, content_search_from_1_v]
    refine ldP_mk (by rw [hcell_blk a3]; rfl) ?_
    refine ldS_mk ac.c0 (ldB_mk ac.c1 (ldB_mk ac.c2 (ldB_mk ac.c3 (ldI_mk ac.c4 (ldI_mk ac.c5 (ldB_mk ac.c6 ?_))))))
    refine ldI_mk (by rw [hcell_blk aa]; rfl) ?_
    refine compare_c S c p hN (by have := hc.1; omega) (by omega) fun h2 s2 f2 => ⟨_, rfl, ?_⟩
    have F2 := F.go f2
    obtain ⟨⟨t3', a3'⟩, ⟨t4', a4'⟩, ac', ⟨ta', aa'⟩, fr', -, -⟩ := id F2
    simp only [content_search_from_b21, content_search_from_b22, content_search_from_b23, content_search_from_b24, content_search_from_b25, nn]
    by_cases h0 : left = 0
    · rw [if_pos h0] at s2 hR
      rw [if_pos (by rw [if_pos h0]; rfl)]
      refine ⟨_, _, rfl, ?_⟩
      obtain ⟨⟨t, hb⟩, hrc, hrt, hle⟩ := id s2
      refine ldP_mk (by rw [hcell_blk a3']; rfl) ?_
      refine ldB_mk (by rw [add_mk, hcell_blk hb]; rfl) ?_
      rw [if_pos rfl]
      have := hk h2 (by rw [hR]; exact s2) fr'
      rw [hR] at this
      exact this
    rw [if_neg h0] at s2 hR
    obtain ⟨⟨t, hb⟩, hrc, hrt, hle⟩ := id s2
    by_cases hat : AtP c d p
    · rw [if_pos hat] at hR
      rw [if_neg (by rw [if_neg h0]; simp [hat])]
      refine ldB_mk ac'.c2 ?_
      cases hneg : c.neg with
      | true =>
        rw [if_pos rfl]
        refine ⟨_, _, rfl, ?_⟩
        rw [hneg, if_pos rfl] at hR
        refine ldP_mk (by rw [hcell_blk a3']; rfl) ?_
        refine ldB_mk (by rw [add_mk, hcell_blk hb]; rfl) ?_
        rw [if_neg (by simp)]
        refine ldB_mk ac'.c2 ?_
        rw [hneg, if_pos rfl, if_pos rfl]
        have := hk h2 (by rw [hR]; exact s2) fr'
        rw [hR] at this
        exact this
      | false =>
        rw [if_neg (by simp)]
        rw [hneg, if_neg (by simp)] at hR
        refine ldP_mk (by rw [hcell_blk a3']; rfl) (ldI_mk (by rw [hcell_blk a4']; rfl) (ldI_mk (by rw [hcell_blk aa']; rfl) (ldS_mk ac'.c0 ?_)))
        have hin := hat.2.1
        rw [bs_size, wr (by omega) (by omega), wr (by omega) (by omega)]
        have hok := solve_ok d ts rest (p + c.pat.length) (left - 1)
        refine ih (p + c.pat.length) ⟨by omega, by omega⟩ s2 fun h3 s3 f3 => ⟨_, _, rfl, _, _, rfl, ?_⟩
        generalize hr : solve d ts rest (p + c.pat.length) (left - 1) = r at *
        have F3 := F2.go f3
        obtain ⟨⟨t3'', a3''⟩, ⟨t4'', a4''⟩, ac'', ⟨ta'', aa''⟩, fr'', -, -⟩ := id F3
        obtain ⟨⟨t9, hb9⟩, hrc9, hrt9, hle9⟩ := id s3
        refine ldP_mk (by rw [hcell_blk a3'']; rfl) ?_
        refine ldB_mk (by rw [add_mk, hcell_blk hb9]; rfl) ?_
        obtain ⟨re, rl, ro⟩ := r
        simp only at hR hok s3 ⊢
        cases ro with
        | true =>
          rw [if_pos rfl]
          rw [if_pos rfl] at hR
          have := hk h3 (by rw [hR]; exact s3) fr''
          rw [hR] at this
          exact this
        | false =>
          rw [if_neg (by simp)]
          rw [if_neg (by simp)] at hR
          refine ldB_mk ac''.c2 ?_
          rw [hneg, if_neg (by simp)]
          cases re with
          | some e =>
            rw [if_pos (by rfl)]
            rw [if_pos (by rfl)] at hR
            have := hk h3 (by rw [hR]; exact s3) fr''
            rw [hR] at this
            exact this
          | none =>
            rw [if_neg (by simp)]
            rw [if_neg (by simp)] at hR
            have := go h3 rl F3 s3 (by rw [hneg]; exact hR)
            rw [hneg] at this
            exact this
    · rw [if_neg hat] at hR
      rw [if_pos (by rw [if_neg h0]; simp [hat])]
      refine ⟨_, _, rfl, ?_⟩
      refine ldP_mk (by rw [hcell_blk a3']; rfl) ?_
      refine ldB_mk (by rw [add_mk, hcell_blk hb]; rfl) ?_
      rw [if_neg (by simp)]
      refine ldB_mk ac'.c2 ?_
      have := go h2 (left - 1) F2 s2 hR
      cases hneg : c.neg with
      | true => rw [if_pos rfl, if_neg (by simp), if_neg (by simp)]; rw [hneg] at this; exact this
      | false => rw [if_neg (by simp), if_neg (by simp)]; rw [hneg] at this; exact this
end
end Go.Proofs.Ytkmommchanjobaa
