/-
  The search of the reference.
-/
import Derived.Test.YtkmommchanjobaaContJ
namespace Go.Proofs.Ytkmommchanjobaa
set_option linter.unusedSimpArgs false
set_option linter.unusedVariables false
open Go
/-- The state of a search of the reference. -/
structure RS (h : Heap) (b : Nat) (La Ta : Option Addr) (cs : List Cn) (ts : List Ts) (left : Nat) (over : Bool) : Prop where
  blk : ∃ t, h[b]? = some (.cells #[.int .i64 (left : Int), .bool over] t (0, 0))
  rc : RdC (· = b) h La cs
  rt : RdT (· = b) h Ta ts
theorem RS.fr {h h' : Heap} {b : Nat} {La Ta : Option Addr} {cs : List Cn} {ts : List Ts} {left : Nat} {over : Bool} (s : RS h b La Ta cs ts left over) (f : Fr (fun _ => False) h h') : RS h' b La Ta cs ts left over := by
  obtain ⟨⟨t, hb⟩, h1, h2⟩ := s
  exact ⟨⟨t, f.get hb id⟩, h1.fr f fun _ h => h.elim, h2.fr f fun _ h => h.elim⟩
def resR (r : Res) : Value := .tuple #[.bool r.1.isSome, .int .i64 (r.1.getD 0)]
section
variable {b : Nat} {La : Option Addr} {lc : Nat} {Ta : Option Addr} {tc : Nat} {cs : List Cn} {ts : List Ts} {d : List UInt8}
theorem step_c [Gh] {h : Heap} {left : Nat} (s : RS h b La Ta cs ts left false) (hl : left < 2 ^ 40) {Q : Value → Heap → Prop}
    (hk : ∀ h', (if left = 0 then RS h' b La Ta cs ts 0 true else RS h' b La Ta cs ts (left - 1) false) → Fr (· = b) h h' → Q (.bool (decide (left ≠ 0))) h') : CallT Try.prog fn_ref44_search_step #[.pointer (some ⟨b, 0, none⟩)] h Q := by
  obtain ⟨⟨t, hb⟩, hrc, hrt⟩ := s
  refine ref44_search_step_s _ ?_
  simp only [ref44_search_step_b4, ref44_search_step_b3, ref44_search_step_b6, ref44_search_step_b5, ref44_search_step_b2, ref44_search_step_b1, ref44_search_step_v, nn]
  refine ldI_mk (by rw [hcell_blk hb]; rfl) ?_
  by_cases h0 : left = 0
  · subst h0
    rw [if_pos (by rfl)]
    simp only [nn, add_mk, ldI, ldB, ldS, ldP, ldL, ldM, ldV, hcell_mk, st1, stN, hfrozen_mk, hset_get, objSet, sliceSl, cellV, alV, push_get, and_assoc, objSet_cells, Option.isSome_some, Option.isSome_none, Option.isSome_map, Option.map_some, List.getElem?_toArray, List.getElem?_cons_zero, List.getElem?_cons_succ, List.getElem?_nil, List.setIfInBounds_toArray, List.set_cons_zero, List.set_cons_succ, Option.some.injEq, Value.int.injEq, Value.slice.injEq, Value.bool.injEq, Value.string.injEq, Value.pointer.injEq, Value.map.injEq, Value.agg.injEq, Value.tuple.injEq, true_and, and_true, if_true, if_false, ite_true, ite_false, Nat.reduceAdd, Nat.zero_add, Nat.add_zero, Nat.not_lt_zero, Nat.zero_le, decide_true, decide_false, Bool.and_false, Bool.false_eq_true, Bool.true_and, Bool.false_and, Nat.reduceLeDiff, Nat.reduceLT, Nat.le_refl, exists_eq_left', exists_eq_left, exists_eq_right, exists_and_left, exists_const, reduceCtorEq, false_and, and_false, Int.reduceToNat, Int.le_refl, hb]
    have f5 : Fr (· = b) h (hset h ⟨b, 1, none⟩ (.bool true)) := (Fr.refl _ _).hset' (.inl rfl)
    exact hk (hset h ⟨b, 1, none⟩ (.bool true)) (by
      rw [if_pos rfl]
      exact ⟨⟨t, by simp only [nn, add_mk, ldI, ldB, ldS, ldP, ldL, ldM, ldV, hcell_mk, st1, stN, hfrozen_mk, hset_get, objSet, sliceSl, cellV, alV, push_get, and_assoc, objSet_cells, Option.isSome_some, Option.isSome_none, Option.isSome_map, Option.map_some, List.getElem?_toArray, List.getElem?_cons_zero, List.getElem?_cons_succ, List.getElem?_nil, List.setIfInBounds_toArray, List.set_cons_zero, List.set_cons_succ, Option.some.injEq, Value.int.injEq, Value.slice.injEq, Value.bool.injEq, Value.string.injEq, Value.pointer.injEq, Value.map.injEq, Value.agg.injEq, Value.tuple.injEq, true_and, and_true, if_true, if_false, ite_true, ite_false, Nat.reduceAdd, Nat.zero_add, Nat.add_zero, Nat.not_lt_zero, Nat.zero_le, decide_true, decide_false, Bool.and_false, Bool.false_eq_true, Bool.true_and, Bool.false_and, Nat.reduceLeDiff, Nat.reduceLT, Nat.le_refl, exists_eq_left', exists_eq_left, exists_eq_right, exists_and_left, exists_const, reduceCtorEq, false_and, and_false, Int.reduceToNat, Int.le_refl, hb]⟩, hrc.fr f5 fun _ h => h, hrt.fr f5 fun _ h => h⟩) f5
  · rw [if_neg (by simpa using h0)]
    refine ldI_mk (by rw [hcell_blk hb]; rfl) ?_
    rw [wr (by omega) (by omega)]
    have f5 : Fr (· = b) h (hset h ⟨b, 0, none⟩ (.int .i64 ((left : Int) - 1))) := (Fr.refl _ _).hset' (.inl rfl)
    refine ⟨rfl, by rw [hcell_blk hb]; rfl, hfrozen_blk hb, ?_⟩
    have := hk (hset h ⟨b, 0, none⟩ (.int .i64 ((left : Int) - 1))) (by
      rw [if_neg h0]
      refine ⟨⟨t, ?_⟩, hrc.fr f5 fun _ h => h, hrt.fr f5 fun _ h => h⟩
      have e : ((left - 1 : Nat) : Int) = (left : Int) - 1 := by omega
      rw [e]; simp only [nn, add_mk, ldI, ldB, ldS, ldP, ldL, ldM, ldV, hcell_mk, st1, stN, hfrozen_mk, hset_get, objSet, sliceSl, cellV, alV, push_get, and_assoc, objSet_cells, Option.isSome_some, Option.isSome_none, Option.isSome_map, Option.map_some, List.getElem?_toArray, List.getElem?_cons_zero, List.getElem?_cons_succ, List.getElem?_nil, List.setIfInBounds_toArray, List.set_cons_zero, List.set_cons_succ, Option.some.injEq, Value.int.injEq, Value.slice.injEq, Value.bool.injEq, Value.string.injEq, Value.pointer.injEq, Value.map.injEq, Value.agg.injEq, Value.tuple.injEq, true_and, and_true, if_true, if_false, ite_true, ite_false, Nat.reduceAdd, Nat.zero_add, Nat.add_zero, Nat.not_lt_zero, Nat.zero_le, decide_true, decide_false, Bool.and_false, Bool.false_eq_true, Bool.true_and, Bool.false_and, Nat.reduceLeDiff, Nat.reduceLT, Nat.le_refl, exists_eq_left', exists_eq_left, exists_eq_right, exists_and_left, exists_const, reduceCtorEq, false_and, and_false, Int.reduceToNat, Int.le_refl, hb]) f5
    rw [decide_eq_true (by omega)] at this
    exact this
theorem rtests_c [Gh] (hot : ∀ t ∈ ts, OkT t) (htl : ts.length < 2 ^ 40) (hd : d.length < 2 ^ 30) {h : Heap} {S : Nat → Prop} (rt : RdT S h Ta ts) (cur : Int) (hcur : 0 ≤ cur ∧ cur ≤ d.length)
    {Q : Value → Heap → Prop} (hk : ∀ h', Fr (fun _ => False) h h' → Q (.tuple #[.bool (ts.all (fun t => testL t d cur)), .int .i64 (if ts.all (fun t => testL t d cur) then cur else 0)]) h') :
    ref44_search_from_b3 Ta ts.length tc (bs d) cur Q h := by
  simp only [ref44_search_from_b3]
  refine LoopV.mk (fun i h' => ∃ k : Nat, i = k ∧ k ≤ ts.length ∧ Fr (fun _ => False) h h' ∧ ∀ j (hj : j < ts.length), j < k → testL ts[j] d cur = true) (fun i _ => ts.length - i.toNat) ⟨0, rfl, by omega, Fr.refl _ _, fun j _ hj => by omega⟩ ?_
  rintro i h' ⟨k, rfl, hkl, hf, hpre⟩
  simp only [ref44_search_from_b8, ref44_search_from_b9, ref44_search_from_b7, ref44_search_from_b6, ref44_search_from_b5, ref44_search_from_l4]
  by_cases hk' : k < ts.length
  · rw [if_pos (by rw [decide_eq_true_eq]; omega)]
    obtain ⟨ad, rfl, hnb, r⟩ := (rt.fr hf fun _ h => h.elim) k hk'
    refine ⟨by omega, by omega, ?_⟩
    simp only [nn]
    rw [Int.toNat_natCast]
    refine ldI_mk r.c0 (ldI_mk r.c1 (ldI_mk r.c2 (ldI_mk r.c3 (ldB_mk r.c4 (ldB_mk r.c5 (ldB_mk r.c6 ?_))))))
    refine rTest_c ts[k] d cur (hot _ (List.getElem_mem hk')) ⟨hcur.1, by omega⟩ (by omega) fun h5 f5 => ⟨_, rfl, ?_⟩
    by_cases ht : testL ts[k] d cur = true
    · rw [ht, if_neg (by simp), wr (by omega) (by omega)]
      refine ⟨⟨k + 1, by omega, by omega, hf.trans f5, fun j hj hjk => ?_⟩, by omega⟩
      by_cases hjk' : j = k
      · subst hjk'; exact ht
      · exact hpre j hj (by omega)
    · rw [if_pos (by simpa using ht)]
      have : ts.all (fun t => testL t d cur) = false := by
        rw [List.all_eq_false]; exact ⟨ts[k], List.getElem_mem hk', by simpa using ht⟩
      have := this ▸ hk h5 (hf.trans f5)
      exact this
  · rw [if_neg (by rw [decide_eq_true_eq]; omega)]
    have : ts.all (fun t => testL t d cur) = true := by
      rw [List.all_eq_true]
      intro t ht
      obtain ⟨j, hj, rfl⟩ := List.mem_iff_getElem.1 ht
      exact hpre j hj (by omega)
    have := this ▸ hk h' hf
    exact this
theorem rfrom_c [Gh] (hd : d.length < 2 ^ 30) (hcl : cs.length < 2 ^ 40) (htl : ts.length < 2 ^ 40) (hok : ∀ c ∈ cs, OkC c) (hot : ∀ t ∈ ts, OkT t) :
    ∀ (rest : List Cn) (i : Nat), i ≤ cs.length → cs.drop i = rest → ∀ (cur : Int), 0 ≤ cur ∧ cur ≤ d.length → ∀ {h : Heap} {left : Nat}, left < 2 ^ 40 → RS h b La Ta cs ts left false → ∀ {Q : Value → Heap → Prop},
      (∀ h', RS h' b La Ta cs ts (solve d ts rest cur left).2.1 (solve d ts rest cur left).2.2 → Fr (· = b) h h' → Q (resR (solve d ts rest cur left)) h') →
      CallT Try.prog fn_ref44_search_from #[.pointer (some ⟨b, 0, none⟩), .int .i64 (i : Int), .slice La cs.length lc, .slice Ta ts.length tc, .string (bs d), .int .i64 cur] h Q := by
  intro rest
  induction rest with
  | nil =>
    intro i hil he cur hcur h left hl s Q hk
    have hi : i = cs.length := by have := List.drop_eq_nil_iff.1 he; omega
    subst hi
    refine ref44_search_from_s _ _ _ _ _ _ _ _ _ _ ?_
    simp only [ref44_search_from_v, ref44_search_from_b1, ref44_search_from_b2]
    rw [if_pos (by simp)]
    refine rtests_c hot htl hd s.rt cur hcur fun h3 f3 => ?_
    have := hk h3 (s.fr f3) (f3.mono fun _ h => h.elim)
    unfold solve resR at this
    cases hall : ts.all (fun t => testL t d cur) with
    | true => rw [hall] at this; exact this
    | false => rw [hall] at this; exact this
  | cons c rest ih =>
    intro i hil he cur hcur h left hl s Q hk
    have hi : i < cs.length := by
      rcases Nat.lt_or_ge i cs.length with h | h
      · exact h
      · rw [List.drop_of_length_le h] at he; cases he
    have hec : cs[i] = c ∧ cs.drop (i + 1) = rest := by
      rw [List.drop_eq_getElem_cons hi] at he
      injection he with h1 h2; exact ⟨h1, h2⟩
    have hc : OkC c := by rw [← hec.1]; exact hok _ (List.getElem_mem hi)
    refine ref44_search_from_s _ _ _ _ _ _ _ _ _ _ ?_
    simp only [ref44_search_from_v, ref44_search_from_b1, ref44_search_from_b2]
    rw [if_neg (by simp; omega)]
    obtain ⟨ad, rfl, hnb, r0⟩ := s.rc i hi
    have rd : ∀ {h'}, RdC (· = b) h' (some ad) cs → CnAt h' (ad.add (i * 7)) c := fun x => by
      obtain ⟨ad', h1, _, h3⟩ := x i hi
      cases h1
      rw [hec.1] at h3; exact h3
    have r := rd s.rc
    simp only [ref44_search_from_b11, nn, Int.toNat_natCast]
    refine ⟨by omega, by omega, ?_⟩
    refine ldS_mk r.c0 (ldB_mk r.c1 (ldB_mk r.c2 (ldB_mk r.c3 (ldI_mk r.c4 (ldI_mk r.c5 (ldB_mk r.c6 ?_))))))
    have hdI : 0 ≤ (d.length : Int) ∧ (d.length : Int) ≤ 2147483648 := by omega
    have hb1 := boundsL_fst c hc d.length cur hdI ⟨hcur.1, by omega⟩
    have hb2 := boundsL_snd c d.length cur hdI.1
    rw [bs_size]
    refine rBounds_c c d.length cur hc hdI ⟨hcur.1, by omega⟩ fun h2 f2 => ⟨_, _, rfl, ?_⟩
    have hsolve : solve d ts (c :: rest) cur left = places d c (solve d ts rest) (fun left => if c.neg then solve d ts rest cur left else (none, left, false)) ((boundsL c d.length cur).2 - (boundsL c d.length cur).1 + 1).toNat (boundsL c d.length cur).1 left := rfl
    generalize hR0 : solve d ts (c :: rest) cur left = R at *
    generalize (boundsL c d.length cur).1 = first at *
    generalize (boundsL c d.length cur).2 = last at *
    have ih' := fun (x : Int) (hx : 0 ≤ x ∧ x ≤ d.length) {h : Heap} {left : Nat} => ih (i + 1) (by omega) hec.2 x hx (h := h) (left := left)
    rw [show (((i + 1 : Nat) : Int)) = (i : Int) + 1 by omega] at ih'
    simp only [ref44_search_from_b12]
    refine LoopV.mk (fun p h' => ∃ left : Nat, left < 2 ^ 40 ∧ (0 ≤ p ∧ p < 2 ^ 40) ∧ RS h' b (some ad) Ta cs ts left false ∧ Fr (· = b) h h' ∧ R = places d c (solve d ts rest) (fun left => if c.neg then solve d ts rest cur left else (none, left, false)) (last - p + 1).toNat p left) (fun p _ => (last + 1 - p).toNat)
      ⟨left, hl, ⟨hb1.1, by omega⟩, s.fr f2, f2.mono fun _ h => h.elim, hsolve⟩ ?_
    rintro p h3 ⟨left, hl, hp, s3, fr3, hR⟩
    simp only [ref44_search_from_l13, ref44_search_from_b14, ref44_search_from_b15, ref44_search_from_b16, ref44_search_from_b17, ref44_search_from_b18, ref44_search_from_b19, ref44_search_from_b20, ref44_search_from_b21, ref44_search_from_b22, ref44_search_from_b23, ref44_search_from_b24, ref44_search_from_b25, ref44_search_from_b26, ref44_search_from_b27, ref44_search_from_b28, ref44_search_from_b29, ref44_search_from_b30, nn, Int.toNat_natCast]
    by_cases hpl : p ≤ last
    · rw [if_pos (by simpa using hpl)]
      have e1 : (last - p + 1).toNat = (last - (p + 1) + 1).toNat + 1 := by omega
      rw [e1, places] at hR
      have nxt : ∀ h' (left2 : Nat), left2 < 2 ^ 40 → RS h' b (some ad) Ta cs ts left2 false → Fr (· = b) h h' → R = places d c (solve d ts rest) (fun left => if c.neg then solve d ts rest cur left else (none, left, false)) (last - (p + 1) + 1).toNat (p + 1) left2 →
          (∃ left : Nat, left < 2 ^ 40 ∧ (0 ≤ IntKind.wrap .i64 (p + 1) ∧ IntKind.wrap .i64 (p + 1) < 2 ^ 40) ∧ RS h' b (some ad) Ta cs ts left false ∧ Fr (· = b) h h' ∧ R = places d c (solve d ts rest) (fun left => if c.neg then solve d ts rest cur left else (none, left, false)) (last - IntKind.wrap .i64 (p + 1) + 1).toNat (IntKind.wrap .i64 (p + 1)) left) ∧ (last + 1 - IntKind.wrap .i64 (p + 1)).toNat < (last + 1 - p).toNat := by
        intro h' left2 hl2 s' f' hR'
        rw [wr (by omega) (by omega)]
        exact ⟨⟨left2, hl2, ⟨by omega, by omega⟩, s', f', hR'⟩, by omega⟩
      refine step_c s3 hl fun h4 s4 f4 => ⟨_, rfl, ?_⟩
      by_cases h0 : left = 0
      · rw [if_pos h0] at s4 hR
        rw [if_pos (by simp [h0])]
        have := hk h4 (by rw [hR]; exact s4) (fr3.trans f4)
        rw [hR] at this
        exact this
      rw [if_neg h0] at s4 hR
      rw [if_neg (by simp [h0])]
      have r4 := rd s4.rc
      refine ⟨by omega, by omega, ?_⟩
      refine ldS_mk r4.c0 (ldB_mk r4.c1 (ldB_mk r4.c2 (ldB_mk r4.c3 (ldI_mk r4.c4 (ldI_mk r4.c5 (ldB_mk r4.c6 ?_))))))
      refine rAt_c c d p (by have := hc.1; omega) (by omega) fun h5 f5 => ⟨_, rfl, ?_⟩
      have s5 := s4.fr f5
      have r5 := rd s5.rc
      have fr5 : Fr (· = b) h h5 := (fr3.trans f4).trans (f5.mono fun _ h => h.elim)
      by_cases hat : AtP c d p
      · rw [if_pos hat] at hR
        rw [if_neg (by simp [hat])]
        refine ⟨by omega, by omega, ldB_mk r5.c2 ?_⟩
        cases hneg : c.neg with
        | true =>
          rw [if_pos rfl]
          rw [hneg, if_pos rfl] at hR
          have := hk h5 (by rw [hR]; exact s5) fr5
          rw [hR] at this
          exact this
        | false =>
          rw [if_neg (by simp)]
          rw [hneg, if_neg (by simp)] at hR
          refine ⟨by omega, by omega, ldS_mk r5.c0 ?_⟩
          have hin := hat.2.1
          rw [bs_size, wr (by omega) (by omega), wr (x := p + (c.pat.length : Int)) (by omega) (by omega)]
          have hok2 := solve_ok d ts rest (p + c.pat.length) (left - 1)
          refine ih' (p + c.pat.length) ⟨by omega, by omega⟩ (by omega) s5 fun h6 s6 f6 => ⟨_, _, rfl, ?_⟩
          generalize hr : solve d ts rest (p + c.pat.length) (left - 1) = rr at *
          have fr6 := fr5.trans f6
          obtain ⟨⟨t6, hb6⟩, _, _⟩ := id s6
          obtain ⟨re, rl, ro⟩ := rr
          simp only at hR hok2 s6 ⊢
          cases re with
          | some e =>
            have hro : ro = false := by
              cases ro with
              | false => rfl
              | true => have := hok2.2 rfl; cases this
            subst hro
            rw [if_pos (by rfl)]
            rw [if_neg (by simp), if_pos (by rfl)] at hR
            have := hk h6 (by rw [hR]; exact s6) fr6
            rw [hR] at this
            exact this
          | none =>
            rw [if_neg (by simp)]
            refine ldB_mk (by rw [add_mk, hcell_blk hb6]; rfl) ?_
            cases ro with
            | true =>
              rw [if_pos rfl]
              rw [if_pos rfl] at hR
              have := hk h6 (by rw [hR]; exact s6) fr6
              rw [hR] at this
              exact this
            | false =>
              rw [if_neg (by simp)]
              rw [if_neg (by simp), if_neg (by simp)] at hR
              have := nxt h6 rl (by omega) s6 fr6 (by rw [hneg]; exact hR)
              rw [hneg] at this
              exact this
      · rw [if_neg hat] at hR
        rw [if_pos (by simp [hat])]
        exact nxt h5 (left - 1) (by omega) s5 fr5 hR
    · rw [if_neg (by simpa using hpl)]
      have e0 : (last - p + 1).toNat = 0 := by omega
      rw [e0, places] at hR
      have r3 := rd s3.rc
      refine ⟨by omega, by omega, ldB_mk r3.c2 ?_⟩
      cases hneg : c.neg with
      | true =>
        rw [if_pos rfl]
        rw [hneg, if_pos rfl] at hR
        rw [wr (by omega) (by omega)]
        refine ih' cur hcur hl s3 fun h6 s6 f6 => ⟨_, _, rfl, ?_⟩
        rw [← hR] at s6 ⊢
        exact hk h6 s6 (fr3.trans f6)
      | false =>
        rw [if_neg (by simp)]
        rw [hneg, if_neg (by simp)] at hR
        have := hk h3 (by rw [hR]; exact s3) fr3
        rw [hR] at this
        exact this
theorem rMatch_c [Gh] (hd : d.length < 2 ^ 30) (hcl : cs.length < 2 ^ 40) (htl : ts.length < 2 ^ 40) (hok : ∀ c ∈ cs, OkC c) (hot : ∀ t ∈ ts, OkT t) (budget : Int) (hbud : budget < 2 ^ 40) {h : Heap} (rc : RdC (fun _ => False) h La cs) (rt : RdT (fun _ => False) h Ta ts) {Q : Value → Heap → Prop}
    (hk : ∀ h', Fr (fun _ => False) h h' → Q (matchV (solve d ts cs 0 (stepsL budget)) (stepsL budget)) h') :
    CallT Try.prog fn_ref44_Match #[.slice La cs.length lc, .slice Ta ts.length tc, .string (bs d), .int .i64 budget] h Q := by
  refine ref44_Match_s _ _ _ _ _ _ _ _ ?_
  simp only [ref44_Match_v, ref44_Match_b1, ref44_Match_b2, ref44_Match_b3]
  have hN : stepsL budget < 2 ^ 40 := by unfold stepsL; omega
  have main : ∀ x : Int, x = ((stepsL budget : Nat) : Int) → ref44_Match_b4 La cs.length lc Ta ts.length tc (bs d) x Q h := by
    rintro x rfl
    generalize stepsL budget = N at *
    simp only [ref44_Match_b4, ref44_Match_b5, ref44_Match_b6, ref44_Match_b7, ref44_Match_b8]
    refine alV_mk ?_
    have fp := Fr.push (fun _ => False) h (.cells #[Value.int .i64 (N : Int), Value.bool false] 55 (0, 0))
    have hb : (h.push (.cells #[Value.int .i64 (N : Int), Value.bool false] 55 (0, 0)))[h.size]? = some (.cells #[Value.int .i64 (N : Int), Value.bool false] 55 (0, 0)) := get_push_self
    generalize h.push (.cells #[Value.int .i64 (N : Int), Value.bool false] 55 (0, 0)) = h1 at *
    have s1 : RS h1 h.size La Ta cs ts N false := by
      refine ⟨⟨55, hb⟩, rdC_mono (rc.fr fp fun _ h => h) fun ad ha hc => ?_, rdT_mono (rt.fr fp fun _ h => h) fun ad ha hc => ?_⟩
      · have := rc.lt ad ha hc; omega
      · have := rt.lt ad ha hc; omega
    have hso := solve_ok d ts cs 0 N
    refine rfrom_c hd hcl htl hok hot cs 0 (Nat.zero_le _) rfl 0 ⟨by omega, by omega⟩ hN s1 fun h2 s2 f2 => ⟨_, _, rfl, ?_⟩
    generalize solve d ts cs 0 N = r at *
    obtain ⟨re, rl, ro⟩ := r
    obtain ⟨⟨t, hb2⟩, _, _⟩ := s2
    have f02 : Fr (fun _ => False) h h2 := fp.tr f2 fun x hx hxa => by omega
    have hk := hk h2 f02
    unfold matchV at hk
    simp only at hso
    refine ldB_mk (by rw [add_mk, hcell_blk hb2]; rfl) ?_
    cases ro with
    | true =>
      rw [if_pos rfl]
      rw [if_pos (by rfl)] at hk
      exact hk
    | false =>
      rw [if_neg (by simp)]
      rw [if_neg (by simp)] at hk
      refine ldI_mk (by rw [hcell_blk hb2]; rfl) ?_
      simp only at hk ⊢
      rw [wr (by omega) (by omega)]
      have e : (N : Int) - (rl : Int) = ((N - rl : Nat) : Int) := by omega
      rw [e]; exact hk
  by_cases h0 : budget < 0
  · rw [if_pos (by simpa using h0)]
    exact main 0 (by unfold stepsL; omega)
  · rw [if_neg (by simpa using h0)]
    exact main budget (by unfold stepsL; omega)
end
end Go.Proofs.Ytkmommchanjobaa
