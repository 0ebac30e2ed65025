/-
  The search: what it computes, its state, one comparison.
-/
import Derived.Test.YtkmommchanjobaaContD
namespace Go.Proofs.Ytkmommchanjobaa
set_option linter.unusedSimpArgs false
set_option linter.unusedVariables false
open Go
theorem Fr.hcell {S : Nat → Prop} {h h' : Heap} (f : Fr S h h') {a : Addr} {v : Value} (hc : Go.Proofs.Ytkmommchanjobaa.hcell h a = some v) (hn : ¬ S a.block) : Go.Proofs.Ytkmommchanjobaa.hcell h' a = some v := by
  unfold Go.Proofs.Ytkmommchanjobaa.hcell at hc ⊢
  cases hb : h[a.block]? with
  | none => rw [hb] at hc; simp at hc
  | some o => rw [f.get hb hn]; rw [hb] at hc; exact hc
theorem add_block (a : Addr) (n : Nat) : (a.add n).block = a.block := by unfold Addr.add; split <;> rfl
structure CnAt (h : Heap) (a : Addr) (c : Cn) : Prop where
  c0 : hcell h a = some (.string (bs c.pat))
  c1 : hcell h (a.add 1) = some (.bool c.nocase)
  c2 : hcell h (a.add 2) = some (.bool c.neg)
  c3 : hcell h (a.add 3) = some (.bool c.rel)
  c4 : hcell h (a.add 4) = some (.int .i64 c.off)
  c5 : hcell h (a.add 5) = some (.int .i64 c.dep)
  c6 : hcell h (a.add 6) = some (.bool c.fast)
theorem CnAt.fr {S : Nat → Prop} {h h' : Heap} {a : Addr} {c : Cn} (r : CnAt h a c) (f : Fr S h h') (hn : ¬ S a.block) : CnAt h' a c :=
  ⟨f.hcell r.c0 hn, f.hcell r.c1 (by rw [add_block]; exact hn), f.hcell r.c2 (by rw [add_block]; exact hn), f.hcell r.c3 (by rw [add_block]; exact hn), f.hcell r.c4 (by rw [add_block]; exact hn), f.hcell r.c5 (by rw [add_block]; exact hn), f.hcell r.c6 (by rw [add_block]; exact hn)⟩
structure TsAt (h : Heap) (a : Addr) (t : Ts) : Prop where
  c0 : hcell h a = some (.int .i64 t.op)
  c1 : hcell h (a.add 1) = some (.int .i64 t.size)
  c2 : hcell h (a.add 2) = some (.int .i64 t.val)
  c3 : hcell h (a.add 3) = some (.int .i64 t.off)
  c4 : hcell h (a.add 4) = some (.bool t.rel)
  c5 : hcell h (a.add 5) = some (.bool t.little)
  c6 : hcell h (a.add 6) = some (.bool t.neg)
theorem TsAt.fr {S : Nat → Prop} {h h' : Heap} {a : Addr} {c : Ts} (r : TsAt h a c) (f : Fr S h h') (hn : ¬ S a.block) : TsAt h' a c :=
  ⟨f.hcell r.c0 hn, f.hcell r.c1 (by rw [add_block]; exact hn), f.hcell r.c2 (by rw [add_block]; exact hn), f.hcell r.c3 (by rw [add_block]; exact hn), f.hcell r.c4 (by rw [add_block]; exact hn), f.hcell r.c5 (by rw [add_block]; exact hn), f.hcell r.c6 (by rw [add_block]; exact hn)⟩
/-- A slice of contents, outside S. -/
def RdC (S : Nat → Prop) (h : Heap) (r : Option Addr) (cs : List Cn) : Prop := ∀ i (hi : i < cs.length), ∃ ad, r = some ad ∧ ¬ S ad.block ∧ CnAt h (ad.add (i * 7)) cs[i]
def RdT (S : Nat → Prop) (h : Heap) (r : Option Addr) (ts : List Ts) : Prop := ∀ i (hi : i < ts.length), ∃ ad, r = some ad ∧ ¬ S ad.block ∧ TsAt h (ad.add (i * 7)) ts[i]
theorem RdC.fr {S S' : Nat → Prop} {h h' : Heap} {r : Option Addr} {cs : List Cn} (x : RdC S h r cs) (f : Fr S' h h') (hs : ∀ b, S' b → S b) : RdC S h' r cs := fun i hi => by
  obtain ⟨ad, h1, h2, h3⟩ := x i hi
  exact ⟨ad, h1, h2, h3.fr f (by rw [add_block]; exact fun h => h2 (hs _ h))⟩
theorem RdT.fr {S S' : Nat → Prop} {h h' : Heap} {r : Option Addr} {cs : List Ts} (x : RdT S h r cs) (f : Fr S' h h') (hs : ∀ b, S' b → S b) : RdT S h' r cs := fun i hi => by
  obtain ⟨ad, h1, h2, h3⟩ := x i hi
  exact ⟨ad, h1, h2, h3.fr f (by rw [add_block]; exact fun h => h2 (hs _ h))⟩
theorem RdC.fr2 {S S' : Nat → Prop} {h h' : Heap} {r : Option Addr} {cs : List Cn} (x : RdC S h r cs) (f : Fr S' h h') (hs : ∀ ad, r = some ad → 0 < cs.length → ¬ S' ad.block) : RdC S h' r cs := fun i hi => by
  obtain ⟨ad, h1, h2, h3⟩ := x i hi
  exact ⟨ad, h1, h2, h3.fr f (by rw [add_block]; exact hs ad h1 (by omega))⟩
theorem RdT.fr2 {S S' : Nat → Prop} {h h' : Heap} {r : Option Addr} {cs : List Ts} (x : RdT S h r cs) (f : Fr S' h h') (hs : ∀ ad, r = some ad → 0 < cs.length → ¬ S' ad.block) : RdT S h' r cs := fun i hi => by
  obtain ⟨ad, h1, h2, h3⟩ := x i hi
  exact ⟨ad, h1, h2, h3.fr f (by rw [add_block]; exact hs ad h1 (by omega))⟩
theorem hcell_lt {h : Heap} {a : Addr} {v : Value} (hc : hcell h a = some v) : a.block < h.size := by
  unfold hcell at hc
  cases hb : h[a.block]? with
  | none => rw [hb] at hc; simp at hc
  | some o => exact lt_of_get hb
theorem RdC.lt {S : Nat → Prop} {h : Heap} {r : Option Addr} {cs : List Cn} (x : RdC S h r cs) : ∀ ad, r = some ad → 0 < cs.length → ad.block < h.size := fun ad ha hc => by
  obtain ⟨ad', h1, _, h3⟩ := x 0 hc
  rw [h1] at ha; cases ha
  have := hcell_lt h3.c0
  rw [add_block] at this; exact this
theorem RdT.lt {S : Nat → Prop} {h : Heap} {r : Option Addr} {cs : List Ts} (x : RdT S h r cs) : ∀ ad, r = some ad → 0 < cs.length → ad.block < h.size := fun ad ha hc => by
  obtain ⟨ad', h1, _, h3⟩ := x 0 hc
  rw [h1] at ha; cases ha
  have := hcell_lt h3.c0
  rw [add_block] at this; exact this
/-- What a search gives: the end, the steps left, whether they did not suffice. -/
abbrev Res := Option Int × Nat × Bool
def places (d : List UInt8) (c : Cn) (k : Int → Nat → Res) (after : Nat → Res) : Nat → Int → Nat → Res
  | 0, _, left => after left
  | n + 1, p, left =>
    if left = 0 then (none, 0, true)
    else if AtP c d p then
      if c.neg then (none, left - 1, false)
      else if (k (p + c.pat.length) (left - 1)).2.2 then (none, (k (p + c.pat.length) (left - 1)).2.1, true)
      else if (k (p + c.pat.length) (left - 1)).1.isSome then k (p + c.pat.length) (left - 1)
      else places d c k after n (p + 1) (k (p + c.pat.length) (left - 1)).2.1
    else places d c k after n (p + 1) (left - 1)
def solve (d : List UInt8) (ts : List Ts) : List Cn → Int → Nat → Res
  | [], cur, left => (if ts.all (fun t => testL t d cur) then some cur else none, left, false)
  | c :: cs, cur, left => places d c (solve d ts cs) (fun left => if c.neg then solve d ts cs cur left else (none, left, false)) ((boundsL c d.length cur).2 - (boundsL c d.length cur).1 + 1).toNat (boundsL c d.length cur).1 left
theorem places_ok {d : List UInt8} {c : Cn} {k : Int → Nat → Res} {after : Nat → Res} (hk : ∀ p l, (k p l).2.1 ≤ l ∧ ((k p l).2.2 = true → (k p l).1 = none)) (ha : ∀ l, (after l).2.1 ≤ l ∧ ((after l).2.2 = true → (after l).1 = none)) :
    ∀ n p l, (places d c k after n p l).2.1 ≤ l ∧ ((places d c k after n p l).2.2 = true → (places d c k after n p l).1 = none)
  | 0, p, l => ha l
  | n + 1, p, l => by
    unfold places
    split
    · exact ⟨Nat.zero_le _, fun _ => rfl⟩
    · split
      · split
        · exact ⟨by simp, fun _ => rfl⟩
        · have h1 := hk (p + c.pat.length) (l - 1)
          split
          · exact ⟨by simp only; omega, fun _ => rfl⟩
          · split
            · exact ⟨by omega, h1.2⟩
            · have := places_ok (d := d) (c := c) hk ha n (p + 1) (k (p + c.pat.length) (l - 1)).2.1
              exact ⟨by omega, this.2⟩
      · have := places_ok (d := d) (c := c) hk ha n (p + 1) (l - 1)
        exact ⟨by omega, this.2⟩
theorem solve_ok (d : List UInt8) (ts : List Ts) : ∀ (cs : List Cn) (cur : Int) (l : Nat), (solve d ts cs cur l).2.1 ≤ l ∧ ((solve d ts cs cur l).2.2 = true → (solve d ts cs cur l).1 = none)
  | [], cur, l => ⟨Nat.le_refl _, by simp [solve]⟩
  | c :: cs, cur, l => by
    unfold solve
    refine places_ok (fun p l => solve_ok d ts cs p l) (fun l => ?_) _ _ _
    split
    · exact solve_ok d ts cs cur l
    · exact ⟨Nat.le_refl _, fun h => by simp at h⟩
/-- The state of a search of package content. -/
structure SS (h : Heap) (b : Nat) (La : Option Addr) (lc : Nat) (Ta : Option Addr) (tc : Nat) (cs : List Cn) (ts : List Ts) (d : List UInt8) (N left : Nat) (over : Bool) : Prop where
  blk : ∃ t, h[b]? = some (.cells #[.slice La cs.length lc, .slice Ta ts.length tc, .string (bs d), .int .i64 N, .int .i64 ((N - left : Nat) : Int), .bool over] t (0, 0))
  rc : RdC (· = b) h La cs
  rt : RdT (· = b) h Ta ts
  le : left ≤ N
theorem SS.lt {h : Heap} {b : Nat} {La : Option Addr} {lc : Nat} {Ta : Option Addr} {tc : Nat} {cs : List Cn} {ts : List Ts} {d : List UInt8} {N left : Nat} {over : Bool} (s : SS h b La lc Ta tc cs ts d N left over) : b < h.size := by
  obtain ⟨⟨t, hb⟩, _⟩ := s; exact lt_of_get hb
theorem SS.fr {h h' : Heap} {b : Nat} {La : Option Addr} {lc : Nat} {Ta : Option Addr} {tc : Nat} {cs : List Cn} {ts : List Ts} {d : List UInt8} {N left : Nat} {over : Bool} (s : SS h b La lc Ta tc cs ts d N left over) (f : Fr (fun _ => False) h h') :
    SS h' b La lc Ta tc cs ts d N left over := by
  obtain ⟨⟨t, hb⟩, h1, h2, h3⟩ := s
  exact ⟨⟨t, f.get hb id⟩, h1.fr f fun _ h => h.elim, h2.fr f fun _ h => h.elim, h3⟩
section
variable {h : Heap} {b : Nat} {La : Option Addr} {lc : Nat} {Ta : Option Addr} {tc : Nat} {cs : List Cn} {ts : List Ts} {d : List UInt8} {N left : Nat}
theorem compare_c [Gh] (s : SS h b La lc Ta tc cs ts d N left false) (c : Cn) (p : Int) (hN : N < 2 ^ 40) (hc : c.pat.length < 2 ^ 40) (hd : d.length < 2 ^ 40) {Q : Value → Heap → Prop}
    (hk : ∀ h', (if left = 0 then SS h' b La lc Ta tc cs ts d N 0 true else SS h' b La lc Ta tc cs ts d N (left - 1) false) → Fr (· = b) h h' → Q (.bool (if left = 0 then false else decide (AtP c d p))) h') :
    CallT Try.prog fn_content_search_compare #[.pointer (some ⟨b, 0, none⟩), .agg (cnV c).toArray, .int .i64 p] h Q := by
  have hlt := s.lt
  have hle := s.le
  obtain ⟨pat, nc, neg, rel, off, dep, fast⟩ := c
  refine content_search_compare_s (some ⟨b, 0, none⟩) (bs pat) nc neg rel off dep fast p ?_
  have fp := Fr.push (fun _ => False) h (.cells #[Value.string (bs pat), Value.bool nc, Value.bool neg, Value.bool rel, Value.int .i64 off, Value.int .i64 dep, Value.bool fast] 23 (0, 0))
  have s1 := s.fr fp
  simp only [content_search_compare_b4, content_search_compare_b3, content_search_compare_b6, content_search_compare_b5, content_search_compare_b2, content_search_compare_b1, content_search_compare_v]
  simp only [alV]
  have hne : h.size ≠ b := by omega
  have hcn : CnAt (h.push (.cells #[Value.string (bs pat), Value.bool nc, Value.bool neg, Value.bool rel, Value.int .i64 off, Value.int .i64 dep, Value.bool fast] 23 (0, 0))) ⟨h.size, 0, none⟩ ⟨pat, nc, neg, rel, off, dep, fast⟩ := by
    constructor <;> (try rw [add_mk]) <;> rw [hcell_blk get_push_self] <;> rfl
  generalize h.push (.cells #[Value.string (bs pat), Value.bool nc, Value.bool neg, Value.bool rel, Value.int .i64 off, Value.int .i64 dep, Value.bool fast] 23 (0, 0)) = h1 at *
  generalize hea : Addr.mk h.size 0 none = ca at *
  have hcab : ca.block = h.size := by rw [← hea]
  obtain ⟨⟨t, hb⟩, hrc, hrt, _⟩ := s1
  simp only [nn]
  refine ldI_mk (by rw [add_mk, hcell_blk hb]; rfl) (ldI_mk (by rw [add_mk, hcell_blk hb]; rfl) ?_)
  by_cases h0 : left = 0
  · subst h0
    rw [if_pos (by rw [decide_eq_true_eq]; omega)]
    simp only [nn, add_mk, ldI, ldB, ldS, ldP, ldL, ldM, ldV, hcell_mk, st1, stN, hfrozen_mk, hset_get, objSet, sliceSl, cellV, alV, push_get, and_assoc, objSet_cells, Option.isSome_some, Option.isSome_none, Option.isSome_map, Option.map_some, List.getElem?_toArray, List.getElem?_cons_zero, List.getElem?_cons_succ, List.getElem?_nil, List.setIfInBounds_toArray, List.set_cons_zero, List.set_cons_succ, Option.some.injEq, Value.int.injEq, Value.slice.injEq, Value.bool.injEq, Value.string.injEq, Value.pointer.injEq, Value.map.injEq, Value.agg.injEq, Value.tuple.injEq, true_and, and_true, if_true, if_false, ite_true, ite_false, Nat.reduceAdd, Nat.zero_add, Nat.add_zero, Nat.not_lt_zero, Nat.zero_le, decide_true, decide_false, Bool.and_false, Bool.false_eq_true, Bool.true_and, Bool.false_and, Nat.reduceLeDiff, Nat.reduceLT, Nat.le_refl, exists_eq_left', exists_eq_left, exists_eq_right, exists_and_left, exists_const, reduceCtorEq, false_and, and_false, Int.reduceToNat, Int.le_refl, hb]
    have f5 : Fr (· = b) h1 (hset h1 ⟨b, 5, none⟩ (.bool true)) := (Fr.refl _ _).hset' (.inl rfl)
    have := hk (hset h1 ⟨b, 5, none⟩ (.bool true)) (by
      rw [if_pos rfl]
      exact ⟨⟨t, by simp only [nn, add_mk, ldI, ldB, ldS, ldP, ldL, ldM, ldV, hcell_mk, st1, stN, hfrozen_mk, hset_get, objSet, sliceSl, cellV, alV, push_get, and_assoc, objSet_cells, Option.isSome_some, Option.isSome_none, Option.isSome_map, Option.map_some, List.getElem?_toArray, List.getElem?_cons_zero, List.getElem?_cons_succ, List.getElem?_nil, List.setIfInBounds_toArray, List.set_cons_zero, List.set_cons_succ, Option.some.injEq, Value.int.injEq, Value.slice.injEq, Value.bool.injEq, Value.string.injEq, Value.pointer.injEq, Value.map.injEq, Value.agg.injEq, Value.tuple.injEq, true_and, and_true, if_true, if_false, ite_true, ite_false, Nat.reduceAdd, Nat.zero_add, Nat.add_zero, Nat.not_lt_zero, Nat.zero_le, decide_true, decide_false, Bool.and_false, Bool.false_eq_true, Bool.true_and, Bool.false_and, Nat.reduceLeDiff, Nat.reduceLT, Nat.le_refl, exists_eq_left', exists_eq_left, exists_eq_right, exists_and_left, exists_const, reduceCtorEq, false_and, and_false, Int.reduceToNat, Int.le_refl, hb]⟩, hrc.fr f5 fun _ h => h, hrt.fr f5 fun _ h => h, Nat.zero_le _⟩) ((fp.mono fun _ h => h.elim).trans f5)
    exact this
  · rw [if_neg (by rw [decide_eq_true_eq]; omega)]
    refine ldI_mk (by rw [add_mk, hcell_blk hb]; rfl) ?_
    rw [wr (by omega) (by omega)]
    have f5 : Fr (· = b) h1 (hset h1 ⟨b, 4, none⟩ (.int .i64 (((N - left : Nat) : Int) + 1))) := (Fr.refl _ _).hset' (.inl rfl)
    have hb2 : (hset h1 ⟨b, 4, none⟩ (.int .i64 (((N - left : Nat) : Int) + 1)))[b]? = some (.cells #[.slice La cs.length lc, .slice Ta ts.length tc, .string (bs d), .int .i64 N, .int .i64 (((N - left : Nat) : Int) + 1), .bool false] t (0, 0)) := by simp only [nn, add_mk, ldI, ldB, ldS, ldP, ldL, ldM, ldV, hcell_mk, st1, stN, hfrozen_mk, hset_get, objSet, sliceSl, cellV, alV, push_get, and_assoc, objSet_cells, Option.isSome_some, Option.isSome_none, Option.isSome_map, Option.map_some, List.getElem?_toArray, List.getElem?_cons_zero, List.getElem?_cons_succ, List.getElem?_nil, List.setIfInBounds_toArray, List.set_cons_zero, List.set_cons_succ, Option.some.injEq, Value.int.injEq, Value.slice.injEq, Value.bool.injEq, Value.string.injEq, Value.pointer.injEq, Value.map.injEq, Value.agg.injEq, Value.tuple.injEq, true_and, and_true, if_true, if_false, ite_true, ite_false, Nat.reduceAdd, Nat.zero_add, Nat.add_zero, Nat.not_lt_zero, Nat.zero_le, decide_true, decide_false, Bool.and_false, Bool.false_eq_true, Bool.true_and, Bool.false_and, Nat.reduceLeDiff, Nat.reduceLT, Nat.le_refl, exists_eq_left', exists_eq_left, exists_eq_right, exists_and_left, exists_const, reduceCtorEq, false_and, and_false, Int.reduceToNat, Int.le_refl, hb]
    have hcn2 := hcn.fr f5 (by rw [hcab]; exact hne)
    have e4 : (⟨b, 0, none⟩ : Addr).add 4 = ⟨b, 4, none⟩ := rfl
    rw [e4]
    refine ⟨rfl, by rw [hcell_blk hb]; rfl, by simp only [hfrozen_mk, hb]; rfl, ?_⟩
    generalize hset h1 ⟨b, 4, none⟩ (.int .i64 (((N - left : Nat) : Int) + 1)) = h2 at *
    refine ldS_mk hcn2.c0 (ldB_mk hcn2.c1 (ldB_mk hcn2.c2 (ldB_mk hcn2.c3 (ldI_mk hcn2.c4 (ldI_mk hcn2.c5 (ldB_mk hcn2.c6 ?_))))))
    refine ldS_mk (by rw [add_mk, hcell_blk hb2]; rfl) ?_
    refine At_c ⟨pat, nc, neg, rel, off, dep, fast⟩ d p hc hd fun h3 f3 => ⟨_, rfl, ?_⟩
    have := hk h3 (by
      rw [if_neg h0]
      refine SS.fr ⟨⟨t, ?_⟩, hrc.fr f5 fun _ h => h, hrt.fr f5 fun _ h => h, by omega⟩ f3
      rw [hb2]
      have : ((N - left : Nat) : Int) + 1 = ((N - (left - 1) : Nat) : Int) := by omega
      rw [this]) (((fp.mono fun _ h => h.elim).trans f5).trans (f3.mono fun _ h => h.elim))
    rw [if_neg h0] at this
    exact this
end
end Go.Proofs.Ytkmommchanjobaa
