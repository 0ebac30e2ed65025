/-
  Feed of the splitter, whole; Split.
-/
import Derived.Test.YtooebihmkjkblaaLinesE
namespace Go.Proofs.Ytooebihmkjkblaa
set_option linter.unusedSimpArgs false
set_option linter.unusedVariables false
open Go
def feedL (mx : Nat) : List UInt8 → List UInt8 → List (List UInt8 × Bool) × List UInt8
  | B, [] => ([], B)
  | B, c :: s => if c = 10 then (lineL mx (bareL B) :: (feedL mx [] s).1, (feedL mx [] s).2) else feedL mx (B ++ [c]) s
theorem feedL_none (mx : Nat) : ∀ (l B : List UInt8), (∀ x ∈ l, x ≠ 10) → feedL mx B l = ([], B ++ l)
  | [], B, _ => by simp [feedL]
  | c :: l, B, h => by
    rw [feedL, if_neg (h c (by simp)), feedL_none mx l _ (fun x hx => h x (by simp [hx]))]; simp
theorem feedL_some (mx : Nat) (r : List UInt8) : ∀ (l B : List UInt8), (∀ x ∈ l, x ≠ 10) → feedL mx B (l ++ 10 :: r) = (lineL mx (bareL (B ++ l)) :: (feedL mx [] r).1, (feedL mx [] r).2)
  | [], B, _ => by simp [feedL]
  | c :: l, B, h => by
    rw [List.cons_append, feedL, if_neg (h c (by simp)), feedL_some mx r l _ (fun x hx => h x (by simp [hx]))]; simp
/-- The length of the string that a variable holds. -/
def strLen (h : Heap) (x : Nat) : Nat :=
  match hcell h ⟨x, 0, none⟩ with
  | some (.string s) => s.size
  | _ => 0
theorem Feed_c [Gh] {h : Heap} {b mx : Nat} {a : Option Addr} {B : List UInt8} (s : SplS h b a mx B) (l : List UInt8) (hsm : B.length + l.length < 2 ^ 38) {Q : Value → Heap → Prop}
    (hk : ∀ h' a' r c, SplS h' b a' mx (feedL mx B l).2 → Fr (Own b a) h h' → (∀ x, InA a' x → InA a x ∨ h.size ≤ x) → OwnC h' r c 2 (linesV (feedL mx B l).1) → (feedL mx B l).1.length ≤ c →
      (∀ x, InA r x → h.size ≤ x ∧ ¬ InA a' x) → Q (.slice r (feedL mx B l).1.length c) h') :
    CallT Try.prog fn_lines_Splitter_Feed #[.pointer (some ⟨b, 0, none⟩), .string (bs l)] h Q := by
  refine lines_Splitter_Feed_s _ _ ?_
  simp only [lines_Splitter_Feed_b3, lines_Splitter_Feed_b10, lines_Splitter_Feed_b9, lines_Splitter_Feed_b5, lines_Splitter_Feed_b4, lines_Splitter_Feed_b2, lines_Splitter_Feed_b1, lines_Splitter_Feed_v]
  have hbl := s.lt (.inl rfl)
  simp only [nn, add_mk, ldI, ldB, ldS, ldP, ldL, ldM, ldV, hcell_mk, st1, stN, hfrozen_mk, hset_get, objSet, sliceSl, cellV, alV, push_get, and_assoc, objSet_cells, Option.isSome_some, Option.isSome_none, Option.isSome_map, Option.map_some, List.getElem?_toArray, List.getElem?_cons_zero, List.getElem?_cons_succ, List.getElem?_nil, List.setIfInBounds_toArray, List.set_cons_zero, List.set_cons_succ, Option.some.injEq, Value.int.injEq, Value.slice.injEq, Value.bool.injEq, Value.string.injEq, Value.pointer.injEq, Value.map.injEq, Value.agg.injEq, Value.tuple.injEq, true_and, and_true, if_true, if_false, ite_true, ite_false, Nat.reduceAdd, Nat.zero_add, Nat.add_zero, Nat.not_lt_zero, Nat.zero_le, decide_true, decide_false, Bool.and_false, Bool.false_eq_true, Bool.true_and, Bool.false_and, Nat.reduceLeDiff, Nat.reduceLT, Nat.le_refl, exists_eq_left', exists_eq_left, exists_eq_right, exists_and_left, exists_const, reduceCtorEq, false_and, and_false, Int.reduceToNat, Int.le_refl, Array.size_push, Nat.ne_of_lt (Nat.lt_succ_self h.size), Option.isNone_some]
  generalize hh1 : ((h.push (Obj.cells #[Value.pointer (some ⟨b, 0, none⟩)] 24)).push (Obj.cells #[Value.string (bs l)] 9)).push (Obj.cells #[Value.slice none 0 0] 31) = h1
  have f1 : Fr (fun _ => False) h h1 := by rw [← hh1]; exact (((Fr.refl _ _).push' _).push' _).push' _
  have I : FI h b a mx (h.size + 1) h.size (h.size + 1 + 1) B l [] h1 := by
    refine ⟨⟨9, ?_⟩, ⟨24, ?_⟩, ⟨none, 0, 31, ?_, ⟨rfl, rfl⟩, by simp, fun x hx => by (obtain ⟨_, h, _⟩ := hx; cases h), a, s.fr f1 (fun _ _ => id), fun x hx => .inl hx, fun x hx => ?_⟩, f1.mono (fun _ h => h.elim), ⟨by omega, by omega, by omega⟩, ⟨by omega, by omega, by omega⟩, hbl, ?_⟩
    · rw [← hh1, push_get, if_neg (by rw [Array.size_push, Array.size_push]; omega), push_get, if_pos (by rw [Array.size_push])]
    · rw [← hh1, push_get, if_neg (by rw [Array.size_push, Array.size_push]; omega), push_get, if_neg (by rw [Array.size_push]; omega), push_get, if_pos rfl]
    · rw [← hh1, push_get, if_pos (by rw [Array.size_push, Array.size_push])]; rfl
    · have := s.lt (.inr hx)
      refine ⟨by omega, by omega, by omega, ?_⟩
      rintro ⟨_, h, _⟩; cases h
    · simp only [List.length_nil]; omega
  refine LoopV.mk (fun _ h' => ∃ B' rest out, FI h b a mx (h.size + 1) h.size (h.size + 1 + 1) B' rest out h' ∧ feedL mx B l = (out ++ (feedL mx B' rest).1, (feedL mx B' rest).2)) (fun _ h' => strLen h' (h.size + 1)) ⟨B, l, [], I, by simp⟩ ?_
  rintro _ h2 ⟨B', rest, out, I2, he⟩
  simp only [lines_Splitter_Feed_b8, lines_Splitter_Feed_b7, lines_Splitter_Feed_l6]
  have hm2 : strLen h2 (h.size + 1) = rest.length := by
    obtain ⟨t, ht⟩ := I2.s
    unfold strLen; rw [hcell_blk ht]; simp [bs_size]
  refine step_c I2 (fun hi => ?_) (fun i h3 hi I3 => ?_)
  · refine ⟨_, rfl, ?_⟩
    rw [if_neg (by simp)]
    obtain ⟨⟨ts, hs⟩, ⟨tp, hp⟩, ⟨r, c, to, ho, hown, hc, hr, a2, sp, ha0, ha⟩, hfr, ⟨n1, n2, n3⟩, ⟨w1, w2, w3⟩, hold, hsm1, hsm2⟩ := I2
    simp only [lines_Splitter_Feed_b3, lines_Splitter_Feed_b10, lines_Splitter_Feed_b9, lines_Splitter_Feed_b5, lines_Splitter_Feed_b4, lines_Splitter_Feed_b2, lines_Splitter_Feed_b1, lines_Splitter_Feed_v]
    simp only [nn, add_mk, ldI, ldB, ldS, ldP, ldL, ldM, ldV, hcell_mk, st1, stN, hfrozen_mk, hset_get, objSet, sliceSl, cellV, alV, push_get, and_assoc, objSet_cells, Option.isSome_some, Option.isSome_none, Option.isSome_map, Option.map_some, List.getElem?_toArray, List.getElem?_cons_zero, List.getElem?_cons_succ, List.getElem?_nil, List.setIfInBounds_toArray, List.set_cons_zero, List.set_cons_succ, Option.some.injEq, Value.int.injEq, Value.slice.injEq, Value.bool.injEq, Value.string.injEq, Value.pointer.injEq, Value.map.injEq, Value.agg.injEq, Value.tuple.injEq, true_and, and_true, if_true, if_false, ite_true, ite_false, Nat.reduceAdd, Nat.zero_add, Nat.add_zero, Nat.not_lt_zero, Nat.zero_le, decide_true, decide_false, Bool.and_false, Bool.false_eq_true, Bool.true_and, Bool.false_and, Nat.reduceLeDiff, Nat.reduceLT, Nat.le_refl, exists_eq_left', exists_eq_left, exists_eq_right, exists_and_left, exists_const, reduceCtorEq, false_and, and_false, Int.reduceToNat, Int.le_refl, hs, hp]
    refine append_c sp rest (by rw [List.length_append]; omega) fun h3 a3 sp3 f3 hn3 => ⟨rfl, ?_⟩
    have hxo : ¬ Own b a2 (h.size + 1 + 1) := by
      rintro (h | h)
      · omega
      · exact (ha _ h).2.2.1 rfl
    have ho3 := f3.get ho hxo
    simp only [nn, add_mk, ldI, ldB, ldS, ldP, ldL, ldM, ldV, hcell_mk, st1, stN, hfrozen_mk, hset_get, objSet, sliceSl, cellV, alV, push_get, and_assoc, objSet_cells, Option.isSome_some, Option.isSome_none, Option.isSome_map, Option.map_some, List.getElem?_toArray, List.getElem?_cons_zero, List.getElem?_cons_succ, List.getElem?_nil, List.setIfInBounds_toArray, List.set_cons_zero, List.set_cons_succ, Option.some.injEq, Value.int.injEq, Value.slice.injEq, Value.bool.injEq, Value.string.injEq, Value.pointer.injEq, Value.map.injEq, Value.agg.injEq, Value.tuple.injEq, true_and, and_true, if_true, if_false, ite_true, ite_false, Nat.reduceAdd, Nat.zero_add, Nat.add_zero, Nat.not_lt_zero, Nat.zero_le, decide_true, decide_false, Bool.and_false, Bool.false_eq_true, Bool.true_and, Bool.false_and, Nat.reduceLeDiff, Nat.reduceLT, Nat.le_refl, exists_eq_left', exists_eq_left, exists_eq_right, exists_and_left, exists_const, reduceCtorEq, false_and, and_false, Int.reduceToNat, Int.le_refl, ho3]
    rw [feedL_none mx rest B' (idx10_none hi)] at he
    simp only [List.append_nil] at he
    have e1 : (feedL mx B l).1 = out := by rw [he]
    have e2 : (feedL mx B l).2 = B' ++ rest := by rw [he]
    have hown3 : OwnC h3 r c 2 (linesV out) := hown.fr f3 fun x hx hxo => by
      rcases hxo with rfl | hxo
      · have := (hr _ hx).1; omega
      · exact (ha x hxo).2.2.2 hx
    have := hk h3 a3 r c (by rw [e2]; exact sp3) (hfr.tr f3 fun x hx hxo => ?_) (fun x hx => ?_) (by rw [e1]; exact hown3) (by rw [e1]; exact hc) (fun x hx => ⟨(hr x hx).1, fun hx3 => ?_⟩)
    · rw [e1] at this; exact this
    · rcases hxo with rfl | hxo
      · exact .inl rfl
      · rcases ha0 x hxo with h | h
        · exact .inr h
        · omega
    · rcases hn3 x hx with hx | hx
      · exact ha0 x hx
      · exact .inr (Nat.le_trans hfr.size hx)
    · rcases hn3 x hx3 with h | h
      · exact (ha x h).2.2.2 hx
      · have := hown.lt hx; omega
  · refine ⟨_, rfl, ?_⟩
    rw [if_pos rfl]
    obtain ⟨r', hr', hn10, hd, hlt⟩ := idx10_some hi
    refine ⟨⟨[], rest.drop (i + 1), _, I3, ?_⟩, ?_⟩
    · rw [he]
      rw [hr', feedL_some mx r' (rest.take i) B' hn10, ← hr', hd]
      simp
    · rw [hm2]
      have : strLen h3 (h.size + 1) = (rest.drop (i + 1)).length := by
        obtain ⟨t, ht⟩ := I3.s
        unfold strLen; rw [hcell_blk ht]; simp [bs_size]
      rw [this, List.length_drop]; omega
end Go.Proofs.Ytooebihmkjkblaa
