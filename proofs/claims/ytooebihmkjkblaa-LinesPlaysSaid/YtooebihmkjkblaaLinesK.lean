/-
  Contracts of the reference splitter.
-/
import Derived.Test.YtooebihmkjkblaaLinesI
namespace Go.Proofs.Ytooebihmkjkblaa
set_option linter.unusedSimpArgs false
set_option linter.unusedVariables false
open Go
/-- The reference's splitter that holds B. -/
def RSpl (h : Heap) (b : Nat) (mx : Nat) (B : List UInt8) : Prop := ∃ t, h[b]? = some (.cells #[.int .i64 mx, .string (bs B)] t (0, 0))
theorem RSpl.fr {S : Nat → Prop} {h h' : Heap} {b mx : Nat} {B : List UInt8} (hb : RSpl h b mx B) (hf : Fr S h h') (hs : ¬ S b) : RSpl h' b mx B := by
  obtain ⟨t, hb⟩ := hb; exact ⟨t, hf.get hb hs⟩
theorem RSpl.lt {h : Heap} {b mx : Nat} {B : List UInt8} (hb : RSpl h b mx B) : b < h.size := by
  obtain ⟨t, hb⟩ := hb; exact lt_of_get hb
theorem rNew_c [Gh] (m : Int) {h : Heap} {Q : Value → Heap → Prop} (hk : ∀ h', RSpl h' h.size (clampI m).toNat [] → Fr (fun _ => False) h h' → h'.size = h.size + 1 → Q (.pointer (some ⟨h.size, 0, none⟩)) h') :
    CallT Try.prog fn_ref25_New #[.int .i64 m] h Q := by
  refine ref25_New_s _ ?_
  simp only [ref25_New_b7, ref25_New_b6, ref25_New_b5, ref25_New_b4, ref25_New_b3, ref25_New_b2, ref25_New_b1, ref25_New_v]
  have fin : ∀ x : Int, x = clampI m → alV h (.cells #[Value.int .i64 x, Value.string (⟨#[]⟩ : ByteArray)] 47) fun t9 h1 => Q (Value.pointer (some t9)) h1 := by
    intro x hx
    refine hk _ ⟨47, ?_⟩ (Fr.push _ _ _) (by simp)
    rw [get_push_self, hx]
    have : ((clampI m).toNat : Int) = clampI m := by unfold clampI; split <;> (try split) <;> omega
    rw [this]; rfl
  by_cases h1 : m < 1
  · rw [if_pos (by simpa using h1), if_neg (by decide)]
    exact fin 1 (by unfold clampI; rw [if_pos h1])
  · rw [if_neg (by simpa using h1)]
    by_cases h2 : m > 512
    · rw [if_pos (by simpa using h2)]
      exact fin 512 (by unfold clampI; rw [if_neg h1, if_pos h2])
    · rw [if_neg (by simpa using h2)]
      exact fin m (by unfold clampI; rw [if_neg h1, if_neg h2])
theorem nilS (l : List UInt8) : ((bs l).toList == (⟨#[]⟩ : ByteArray).toList) = l.isEmpty := lst_eq_nil l
theorem rbare_c [Gh] (l : List UInt8) (hl : l.length < 2 ^ 62) {h : Heap} {Q : Value → Heap → Prop} (hk : Q (.string (bs (bareL l))) h) : CallT Try.prog fn_ref25_bare #[.string (bs l)] h Q := by
  refine ref25_bare_s _ ?_
  simp only [ref25_bare_b3, ref25_bare_b4, ref25_bare_b2, ref25_bare_b1, ref25_bare_v]
  rw [nilS]
  by_cases he : l = []
  · subst he
    rw [if_neg (by simp)]
    exact hk
  · have hp := List.length_pos_iff.2 he
    rw [if_pos (by simpa using he), bs_size, wr (by omega) (by omega)]
    refine idxS_bs _ _ _ (by omega) (by omega) ?_
    have hi : ((l.length : Int) - 1).toNat = l.length - 1 := by omega
    rw [hi]
    have hg := getLast_getD l he
    by_cases h13 : l.getLast? = some 13
    · have e13 : l.getD (l.length - 1) 0 = 13 := by rw [hg] at h13; simpa using h13
      rw [e13, if_pos (by decide)]
      refine ⟨by omega, by rw [bs_size]; omega, ?_⟩
      rw [hi, bs_take]
      have : bareL l = l.take (l.length - 1) := by unfold bareL; rw [if_pos h13, List.dropLast_eq_take]
      rw [← this]; exact hk
    · rw [if_neg (by
        rw [beq_iff_eq]; intro hh
        apply h13; rw [hg]; congr 1
        exact UInt8.toNat_inj.1 (by show _ = 13; omega))]
      have : bareL l = l := by unfold bareL; rw [if_neg h13]
      rw [this] at hk; exact hk
theorem rline_c [Gh] {h : Heap} {b mx : Nat} {B : List UInt8} (s : RSpl h b mx B) (l : List UInt8) {Q : Value → Heap → Prop}
    (hk : ∀ h', Fr (fun _ => False) h h' → Q (.agg #[.string (bs (lineL mx l).1), .bool (lineL mx l).2]) h') : CallT Try.prog fn_ref25_Splitter_line #[.pointer (some ⟨b, 0, none⟩), .string (bs l)] h Q := by
  have hlt := s.lt
  obtain ⟨t, hb⟩ := s
  refine ref25_Splitter_line_s _ _ ?_
  simp only [ref25_Splitter_line_b3, ref25_Splitter_line_b4, ref25_Splitter_line_b2, ref25_Splitter_line_b1, ref25_Splitter_line_v]
  have hne : ¬ b = h.size := by omega
  simp only [nn, add_mk, ldI, ldB, ldS, ldP, ldL, ldM, ldV, hcell_mk, st1, stN, hfrozen_mk, hset_get, objSet, sliceSl, cellV, alV, push_get, and_assoc, objSet_cells, Option.isSome_some, Option.isSome_none, Option.isSome_map, Option.map_some, List.getElem?_toArray, List.getElem?_cons_zero, List.getElem?_cons_succ, List.getElem?_nil, List.setIfInBounds_toArray, List.set_cons_zero, List.set_cons_succ, Option.some.injEq, Value.int.injEq, Value.slice.injEq, Value.bool.injEq, Value.string.injEq, Value.pointer.injEq, Value.map.injEq, Value.agg.injEq, Value.tuple.injEq, true_and, and_true, if_true, if_false, ite_true, ite_false, Nat.reduceAdd, Nat.zero_add, Nat.add_zero, Nat.not_lt_zero, Nat.zero_le, decide_true, decide_false, Bool.and_false, Bool.false_eq_true, Bool.true_and, Bool.false_and, Nat.reduceLeDiff, Nat.reduceLT, Nat.le_refl, exists_eq_left', exists_eq_left, exists_eq_right, exists_and_left, exists_const, reduceCtorEq, false_and, and_false, Int.reduceToNat, Int.le_refl, hb, hne, Array.size_push]
  by_cases hl : l.length > mx
  · have e : decide (((bs l).size : Int) > mx) = true := by rw [bs_size, decide_eq_true_eq]; omega
    rw [if_pos e]
    refine ⟨by omega, by rw [bs_size]; omega, ?_⟩
    have := hk (hset (hset (h.push (.cells #[Value.string (⟨#[]⟩ : ByteArray), Value.bool false] 38)) ⟨h.size, 0, none⟩ (.string (bs (l.take mx)))) ⟨h.size, 1, none⟩ (.bool true)) ((((Fr.refl _ _).push' _).hset' (.inr (Nat.le_refl _))).hset' (.inr (Nat.le_refl _)))
    have e2 : lineL mx l = (l.take mx, true) := by unfold lineL; rw [decide_eq_true (by omega)]
    rw [e2] at this
    rw [Int.toNat_natCast, bs_take]
    exact this
  · have e : ¬ decide (((bs l).size : Int) > mx) = true := by rw [bs_size, decide_eq_true_eq]; omega
    rw [if_neg e]
    have := hk (hset (hset (h.push (.cells #[Value.string (⟨#[]⟩ : ByteArray), Value.bool false] 38)) ⟨h.size, 0, none⟩ (.string (bs l))) ⟨h.size, 1, none⟩ (.bool false)) ((((Fr.refl _ _).push' _).hset' (.inr (Nat.le_refl _))).hset' (.inr (Nat.le_refl _)))
    have e2 : lineL mx l = (l, false) := by unfold lineL; rw [decide_eq_false (by omega), List.take_of_length_le (by omega)]
    rw [e2] at this
    exact this
theorem rRest_c [Gh] {h : Heap} {b mx : Nat} {B : List UInt8} (s : RSpl h b mx B) (hB : B.length < 2 ^ 62) {Q : Value → Heap → Prop}
    (hk : ∀ h', Fr (fun _ => False) h h' → Q (.string (bs (lineL mx (bareL B)).1)) h') : CallT Try.prog fn_ref25_Splitter_Rest #[.pointer (some ⟨b, 0, none⟩)] h Q := by
  have s' := s
  obtain ⟨t, hb⟩ := s'
  refine ref25_Splitter_Rest_s _ ?_
  simp only [ref25_Splitter_Rest_b2, ref25_Splitter_Rest_b1, ref25_Splitter_Rest_v]
  simp only [nn, add_mk, ldI, ldB, ldS, ldP, ldL, ldM, ldV, hcell_mk, st1, stN, hfrozen_mk, hset_get, objSet, sliceSl, cellV, alV, push_get, and_assoc, objSet_cells, Option.isSome_some, Option.isSome_none, Option.isSome_map, Option.map_some, List.getElem?_toArray, List.getElem?_cons_zero, List.getElem?_cons_succ, List.getElem?_nil, List.setIfInBounds_toArray, List.set_cons_zero, List.set_cons_succ, Option.some.injEq, Value.int.injEq, Value.slice.injEq, Value.bool.injEq, Value.string.injEq, Value.pointer.injEq, Value.map.injEq, Value.agg.injEq, Value.tuple.injEq, true_and, and_true, if_true, if_false, ite_true, ite_false, Nat.reduceAdd, Nat.zero_add, Nat.add_zero, Nat.not_lt_zero, Nat.zero_le, decide_true, decide_false, Bool.and_false, Bool.false_eq_true, Bool.true_and, Bool.false_and, Nat.reduceLeDiff, Nat.reduceLT, Nat.le_refl, exists_eq_left', exists_eq_left, exists_eq_right, exists_and_left, exists_const, reduceCtorEq, false_and, and_false, Int.reduceToNat, Int.le_refl, hb]
  refine rbare_c B hB ⟨_, rfl, ?_⟩
  refine rline_c s _ fun h' f => ⟨_, _, rfl, hk h' f⟩
theorem rTake_c [Gh] {h : Heap} {b mx : Nat} {B : List UInt8} (s : RSpl h b mx B) (hB : B.length < 2 ^ 62) (hm : mx ≤ 512) {Q : Value → Heap → Prop}
    (hk : ∀ h', RSpl h' b mx [] → Fr (· = b) h h' → Q (.string (bs (B.take (mx + 1)))) h') : CallT Try.prog fn_ref25_Splitter_Take #[.pointer (some ⟨b, 0, none⟩)] h Q := by
  obtain ⟨t, hb⟩ := s
  refine ref25_Splitter_Take_s _ ?_
  simp only [ref25_Splitter_Take_b5, ref25_Splitter_Take_b6, ref25_Splitter_Take_b4, ref25_Splitter_Take_b3, ref25_Splitter_Take_b2, ref25_Splitter_Take_b1, ref25_Splitter_Take_v]
  simp only [nn, add_mk, ldI, ldB, ldS, ldP, ldL, ldM, ldV, hcell_mk, st1, stN, hfrozen_mk, hset_get, objSet, sliceSl, cellV, alV, push_get, and_assoc, objSet_cells, Option.isSome_some, Option.isSome_none, Option.isSome_map, Option.map_some, List.getElem?_toArray, List.getElem?_cons_zero, List.getElem?_cons_succ, List.getElem?_nil, List.setIfInBounds_toArray, List.set_cons_zero, List.set_cons_succ, Option.some.injEq, Value.int.injEq, Value.slice.injEq, Value.bool.injEq, Value.string.injEq, Value.pointer.injEq, Value.map.injEq, Value.agg.injEq, Value.tuple.injEq, true_and, and_true, if_true, if_false, ite_true, ite_false, Nat.reduceAdd, Nat.zero_add, Nat.add_zero, Nat.not_lt_zero, Nat.zero_le, decide_true, decide_false, Bool.and_false, Bool.false_eq_true, Bool.true_and, Bool.false_and, Nat.reduceLeDiff, Nat.reduceLT, Nat.le_refl, exists_eq_left', exists_eq_left, exists_eq_right, exists_and_left, exists_const, reduceCtorEq, false_and, and_false, Int.reduceToNat, Int.le_refl, hb]
  have hk' := hk (hset h ⟨b, 1, none⟩ (.string (bs []))) ⟨t, by simp only [nn, add_mk, ldI, ldB, ldS, ldP, ldL, ldM, ldV, hcell_mk, st1, stN, hfrozen_mk, hset_get, objSet, sliceSl, cellV, alV, push_get, and_assoc, objSet_cells, Option.isSome_some, Option.isSome_none, Option.isSome_map, Option.map_some, List.getElem?_toArray, List.getElem?_cons_zero, List.getElem?_cons_succ, List.getElem?_nil, List.setIfInBounds_toArray, List.set_cons_zero, List.set_cons_succ, Option.some.injEq, Value.int.injEq, Value.slice.injEq, Value.bool.injEq, Value.string.injEq, Value.pointer.injEq, Value.map.injEq, Value.agg.injEq, Value.tuple.injEq, true_and, and_true, if_true, if_false, ite_true, ite_false, Nat.reduceAdd, Nat.zero_add, Nat.add_zero, Nat.not_lt_zero, Nat.zero_le, decide_true, decide_false, Bool.and_false, Bool.false_eq_true, Bool.true_and, Bool.false_and, Nat.reduceLeDiff, Nat.reduceLT, Nat.le_refl, exists_eq_left', exists_eq_left, exists_eq_right, exists_and_left, exists_const, reduceCtorEq, false_and, and_false, Int.reduceToNat, Int.le_refl, hb]⟩ ((Fr.refl _ _).hset' (.inl rfl))
  rw [wr (by omega) (by omega)]
  by_cases hl : B.length > mx + 1
  · rw [if_pos (by rw [bs_size, decide_eq_true_eq]; omega)]
    refine ⟨by omega, by rw [bs_size]; omega, ?_⟩
    have : ((mx : Int) + 1).toNat = mx + 1 := by omega
    rw [this, bs_take]; exact hk'
  · rw [if_neg (by rw [bs_size, decide_eq_true_eq]; omega)]
    rw [List.take_of_length_le (by omega)] at hk'
    exact hk'
theorem rClose_c [Gh] {h : Heap} {b mx : Nat} {B : List UInt8} (s : RSpl h b mx B) {Q : Value → Heap → Prop}
    (hk : ∀ h' r c, RSpl h' b mx [] → Fr (· = b) h h' → Rd h' r (closeL mx B) → Q (.slice r (closeL mx B).length c) h') : CallT Try.prog fn_ref25_Splitter_Close #[.pointer (some ⟨b, 0, none⟩)] h Q := by
  have hlt := s.lt
  obtain ⟨t, hb⟩ := s
  refine ref25_Splitter_Close_s _ ?_
  simp only [ref25_Splitter_Close_b5, ref25_Splitter_Close_b6, ref25_Splitter_Close_b4, ref25_Splitter_Close_b3, ref25_Splitter_Close_b2, ref25_Splitter_Close_b1, ref25_Splitter_Close_v]
  simp only [nn, add_mk, ldI, ldB, ldS, ldP, ldL, ldM, ldV, hcell_mk, st1, stN, hfrozen_mk, hset_get, objSet, sliceSl, cellV, alV, push_get, and_assoc, objSet_cells, Option.isSome_some, Option.isSome_none, Option.isSome_map, Option.map_some, List.getElem?_toArray, List.getElem?_cons_zero, List.getElem?_cons_succ, List.getElem?_nil, List.setIfInBounds_toArray, List.set_cons_zero, List.set_cons_succ, Option.some.injEq, Value.int.injEq, Value.slice.injEq, Value.bool.injEq, Value.string.injEq, Value.pointer.injEq, Value.map.injEq, Value.agg.injEq, Value.tuple.injEq, true_and, and_true, if_true, if_false, ite_true, ite_false, Nat.reduceAdd, Nat.zero_add, Nat.add_zero, Nat.not_lt_zero, Nat.zero_le, decide_true, decide_false, Bool.and_false, Bool.false_eq_true, Bool.true_and, Bool.false_and, Nat.reduceLeDiff, Nat.reduceLT, Nat.le_refl, exists_eq_left', exists_eq_left, exists_eq_right, exists_and_left, exists_const, reduceCtorEq, false_and, and_false, Int.reduceToNat, Int.le_refl, hb, nilS]
  have s1 : RSpl (hset h ⟨b, 1, none⟩ (.string (bs []))) b mx [] := ⟨t, by simp only [nn, add_mk, ldI, ldB, ldS, ldP, ldL, ldM, ldV, hcell_mk, st1, stN, hfrozen_mk, hset_get, objSet, sliceSl, cellV, alV, push_get, and_assoc, objSet_cells, Option.isSome_some, Option.isSome_none, Option.isSome_map, Option.map_some, List.getElem?_toArray, List.getElem?_cons_zero, List.getElem?_cons_succ, List.getElem?_nil, List.setIfInBounds_toArray, List.set_cons_zero, List.set_cons_succ, Option.some.injEq, Value.int.injEq, Value.slice.injEq, Value.bool.injEq, Value.string.injEq, Value.pointer.injEq, Value.map.injEq, Value.agg.injEq, Value.tuple.injEq, true_and, and_true, if_true, if_false, ite_true, ite_false, Nat.reduceAdd, Nat.zero_add, Nat.add_zero, Nat.not_lt_zero, Nat.zero_le, decide_true, decide_false, Bool.and_false, Bool.false_eq_true, Bool.true_and, Bool.false_and, Nat.reduceLeDiff, Nat.reduceLT, Nat.le_refl, exists_eq_left', exists_eq_left, exists_eq_right, exists_and_left, exists_const, reduceCtorEq, false_and, and_false, Int.reduceToNat, Int.le_refl, hb]⟩
  have f1 : Fr (· = b) h (hset h ⟨b, 1, none⟩ (.string (bs []))) := (Fr.refl _ _).hset' (.inl rfl)
  by_cases hB : B = []
  · subst hB
    rw [if_pos (by rfl)]
    exact hk _ none 0 s1 f1 rfl
  · rw [if_neg (by simpa using hB)]
    refine rline_c s1 _ fun h2 f2 => ⟨_, _, rfl, ?_⟩
    have e : closeL mx B = [lineL mx B] := if_neg hB
    have fp := Fr.push (fun _ => False) h2 (.cells #[.string (bs (lineL mx B).1), .bool (lineL mx B).2] 38 (0, 0))
    have := hk (h2.push (.cells #[.string (bs (lineL mx B).1), .bool (lineL mx B).2] 38 (0, 0))) (some ⟨h2.size, 0, none⟩) 1 ((s1.fr f2 id).fr fp id) (f1.tr (f2.trans fp) fun _ _ h => h.elim) (by
      rw [e]
      refine ⟨rfl, fun j hj => ?_⟩
      rw [add_mk, hcell_blk get_push_self, Nat.zero_add]
      match j, hj with
      | 0, _ => rfl
      | 1, _ => rfl)
    rw [e] at this
    exact this
theorem rFeed_c [Gh] {h : Heap} {b mx : Nat} {B : List UInt8} (s : RSpl h b mx B) (l : List UInt8) (hsm : B.length + l.length < 2 ^ 30) {Q : Value → Heap → Prop}
    (hk : ∀ h' r c, RSpl h' b mx (feedL mx B l).2 → Fr (· = b) h h' → Rd h' r (feedL mx B l).1 → Q (.slice r (feedL mx B l).1.length c) h') :
    CallT Try.prog fn_ref25_Splitter_Feed #[.pointer (some ⟨b, 0, none⟩), .string (bs l)] h Q := by
  have hlt := s.lt
  have s0 := s
  obtain ⟨t, hb⟩ := s
  refine ref25_Splitter_Feed_s _ _ ?_
  simp only [ref25_Splitter_Feed_b14, ref25_Splitter_Feed_b13, ref25_Splitter_Feed_b5, ref25_Splitter_Feed_b4, ref25_Splitter_Feed_b3, ref25_Splitter_Feed_b2, ref25_Splitter_Feed_b1, ref25_Splitter_Feed_v]
  simp only [nn, add_mk, ldI, ldB, ldS, ldP, ldL, ldM, ldV, hcell_mk, st1, stN, hfrozen_mk, hset_get, objSet, sliceSl, cellV, alV, push_get, and_assoc, objSet_cells, Option.isSome_some, Option.isSome_none, Option.isSome_map, Option.map_some, List.getElem?_toArray, List.getElem?_cons_zero, List.getElem?_cons_succ, List.getElem?_nil, List.setIfInBounds_toArray, List.set_cons_zero, List.set_cons_succ, Option.some.injEq, Value.int.injEq, Value.slice.injEq, Value.bool.injEq, Value.string.injEq, Value.pointer.injEq, Value.map.injEq, Value.agg.injEq, Value.tuple.injEq, true_and, and_true, if_true, if_false, ite_true, ite_false, Nat.reduceAdd, Nat.zero_add, Nat.add_zero, Nat.not_lt_zero, Nat.zero_le, decide_true, decide_false, Bool.and_false, Bool.false_eq_true, Bool.true_and, Bool.false_and, Nat.reduceLeDiff, Nat.reduceLT, Nat.le_refl, exists_eq_left', exists_eq_left, exists_eq_right, exists_and_left, exists_const, reduceCtorEq, false_and, and_false, Int.reduceToNat, Int.le_refl, hb, bs_append]
  refine ⟨by rw [bs_size, bs_size, imax]; omega, ?_⟩
  refine LoopV.mk (fun s h' => ∃ pre cur rest out, B ++ l = pre ++ (cur ++ rest) ∧ s.2.2.2.1 = ((pre.length : Nat) : Int) ∧ s.2.2.2.2 = ((pre.length + cur.length : Nat) : Int) ∧ OwnC h' s.1 s.2.2.1 2 (linesV out) ∧ s.2.1 = out.length ∧ out.length ≤ s.2.2.1 ∧
      feedL mx B l = (out ++ (feedL mx cur rest).1, (feedL mx cur rest).2) ∧ Fr (fun _ => False) h h' ∧ (∀ x, InA s.1 x → h.size ≤ x) ∧ out.length ≤ pre.length) (fun s _ => (B ++ l).length - s.2.2.2.2.toNat)
    ⟨[], B, l, [], rfl, rfl, by simp [bs_size], ⟨rfl, rfl⟩, rfl, by simp, by simp, Fr.refl _ _, fun x hx => (notInA hx).elim, by simp⟩ ?_
  rintro ⟨oa, on, oc, fr, i⟩ h2 ⟨pre, cur, rest, out, hall, hfr, hi, ho, hon, hoc, hfe, hf, hnew, hpl⟩
  simp only at hfr hi ho hon hoc hnew
  subst hfr hi hon
  simp only [ref25_Splitter_Feed_b12, ref25_Splitter_Feed_b11, ref25_Splitter_Feed_b10, ref25_Splitter_Feed_b9, ref25_Splitter_Feed_b8, ref25_Splitter_Feed_b7, ref25_Splitter_Feed_l6]
  have hlen := congrArg List.length hall
  simp only [List.length_append] at hlen
  cases rest with
  | cons c rest =>
    rw [if_pos (by rw [bs_size, decide_eq_true_eq, hall]; simp; omega)]
    refine idxS_bs _ _ _ (by omega) (by rw [hall]; simp; omega) ?_
    have eg : (B ++ l).getD ((pre.length + cur.length : Nat) : Int).toNat 0 = c := by
      rw [hall, Int.toNat_natCast, List.getD_eq_getElem?_getD, ← List.append_assoc, List.getElem?_append_right (by simp)]; simp
    rw [eg]
    by_cases hc : c = 10
    · rw [if_pos (by rw [hc]; rfl)]
      refine ⟨by omega, by omega, by rw [bs_size, hall]; simp; omega, ?_⟩
      have ex : (bs (B ++ l)).extract ((pre.length : Nat) : Int).toNat ((pre.length + cur.length : Nat) : Int).toNat = bs cur := by
        rw [bs_extract, hall, Int.toNat_natCast, Int.toNat_natCast, List.drop_left]
        congr 1
        have : pre.length + cur.length - pre.length = cur.length := by omega
        rw [this, List.take_left]
      rw [ex]
      simp only [List.length_cons] at hlen
      refine rbare_c cur (by omega) ⟨_, rfl, ?_⟩
      refine rline_c (s0.fr hf id) _ fun h3 f3 => ⟨_, _, rfl, ?_⟩
      have fp := Fr.push (fun _ => False) h3 (.cells #[.string (bs (lineL mx (bareL cur)).1), .bool (lineL mx (bareL cur)).2] 38 (0, 0))
      refine append_own t31 (xT := 31) (d := .slice 38) rfl (by simp) (m := 1) (xs := linesV [lineL mx (bareL cur)]) (ho.fr (f3.trans fp) fun _ _ => id) (linesV_len _) hoc (.sl _ _ _ _ rfl ?_) (linesV_cellV _) ?_ ?_
      · intro j hj
        rw [add_mk, hcell_blk get_push_self, Nat.zero_add]
        match j, hj with
        | 0, _ => rfl
        | 1, _ => rfl
      · show _ * 24 ≤ _
        omega
      · intro r4 c4 h4 hown4 hc4 f4 hn4
        have z := (hf.trans (f3.trans fp)).size
        refine ⟨_, _, _, rfl, ?_⟩
        rw [wr (by omega) (by omega)]
        refine ⟨⟨pre ++ cur ++ [10], [], rest, out ++ [lineL mx (bareL cur)], by rw [hall, hc]; simp, by simp; omega, by simp; omega, by rw [linesV_append]; exact hown4, by simp, by simpa using hc4, ?_, (hf.trans (f3.trans fp)).tr f4 fun x hx hx2 => by (have := hnew x hx2; omega), fun x hx => ?_, by simp; omega⟩, by simp; omega⟩
        · rw [hfe, feedL, if_pos hc]; simp
        · rcases hn4 x hx with hx | hx
          · exact hnew x hx
          · omega
    · rw [if_neg (by rw [beq_iff_eq]; intro hh; exact hc (UInt8.toNat_inj.1 (by show _ = 10; omega)))]
      simp only [List.length_cons] at hlen
      rw [wr (by omega) (by omega)]
      refine ⟨⟨pre, cur ++ [c], rest, out, by rw [hall]; simp, rfl, by simp; omega, ho, rfl, hoc, ?_, hf, hnew, hpl⟩, by simp; omega⟩
      rw [hfe, feedL, if_neg hc]
  | nil =>
    rw [if_neg (by rw [bs_size, decide_eq_true_eq, hall]; simp)]
    refine ⟨by omega, by rw [bs_size, hall]; simp; omega, ?_⟩
    obtain ⟨t2, hb2⟩ := s0.fr hf id
    have ex : (bs (B ++ l)).extract ((pre.length : Nat) : Int).toNat (bs (B ++ l)).size = bs cur := by
      rw [bs_size, Int.toNat_natCast, bs_drop, hall, List.append_nil, List.drop_left]
    rw [ex]
    simp only [nn, add_mk, ldI, ldB, ldS, ldP, ldL, ldM, ldV, hcell_mk, st1, stN, hfrozen_mk, hset_get, objSet, sliceSl, cellV, alV, push_get, and_assoc, objSet_cells, Option.isSome_some, Option.isSome_none, Option.isSome_map, Option.map_some, List.getElem?_toArray, List.getElem?_cons_zero, List.getElem?_cons_succ, List.getElem?_nil, List.setIfInBounds_toArray, List.set_cons_zero, List.set_cons_succ, Option.some.injEq, Value.int.injEq, Value.slice.injEq, Value.bool.injEq, Value.string.injEq, Value.pointer.injEq, Value.map.injEq, Value.agg.injEq, Value.tuple.injEq, true_and, and_true, if_true, if_false, ite_true, ite_false, Nat.reduceAdd, Nat.zero_add, Nat.add_zero, Nat.not_lt_zero, Nat.zero_le, decide_true, decide_false, Bool.and_false, Bool.false_eq_true, Bool.true_and, Bool.false_and, Nat.reduceLeDiff, Nat.reduceLT, Nat.le_refl, exists_eq_left', exists_eq_left, exists_eq_right, exists_and_left, exists_const, reduceCtorEq, false_and, and_false, Int.reduceToNat, Int.le_refl, hb2]
    rw [show feedL mx cur [] = ([], cur) by simp [feedL]] at hfe
    simp only [List.append_nil] at hfe
    have e1 : (feedL mx B l).1 = out := by rw [hfe]
    have e2 : (feedL mx B l).2 = cur := by rw [hfe]
    have f5 : Fr (· = b) h2 (hset h2 ⟨b, 1, none⟩ (.string (bs cur))) := (Fr.refl _ _).hset' (.inl rfl)
    have hob : OwnC (hset h2 ⟨b, 1, none⟩ (.string (bs cur))) oa oc 2 (linesV out) := ho.fr f5 fun x hx hxb => by
      have := hnew x hx; omega
    have := hk (hset h2 ⟨b, 1, none⟩ (.string (bs cur))) oa oc (by rw [e2]; exact ⟨t2, by simp only [nn, add_mk, ldI, ldB, ldS, ldP, ldL, ldM, ldV, hcell_mk, st1, stN, hfrozen_mk, hset_get, objSet, sliceSl, cellV, alV, push_get, and_assoc, objSet_cells, Option.isSome_some, Option.isSome_none, Option.isSome_map, Option.map_some, List.getElem?_toArray, List.getElem?_cons_zero, List.getElem?_cons_succ, List.getElem?_nil, List.setIfInBounds_toArray, List.set_cons_zero, List.set_cons_succ, Option.some.injEq, Value.int.injEq, Value.slice.injEq, Value.bool.injEq, Value.string.injEq, Value.pointer.injEq, Value.map.injEq, Value.agg.injEq, Value.tuple.injEq, true_and, and_true, if_true, if_false, ite_true, ite_false, Nat.reduceAdd, Nat.zero_add, Nat.add_zero, Nat.not_lt_zero, Nat.zero_le, decide_true, decide_false, Bool.and_false, Bool.false_eq_true, Bool.true_and, Bool.false_and, Nat.reduceLeDiff, Nat.reduceLT, Nat.le_refl, exists_eq_left', exists_eq_left, exists_eq_right, exists_and_left, exists_const, reduceCtorEq, false_and, and_false, Int.reduceToNat, Int.le_refl, hb2]⟩) ((hf.mono fun _ h => h.elim).trans f5) (by rw [e1]; exact hob.rd)
    rw [e1] at this
    exact this
end Go.Proofs.Ytooebihmkjkblaa
