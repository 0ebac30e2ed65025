/-
  Take, Rest and Close of the splitter; the closure in Feed.
-/
import Derived.Test.YtooebihmkjkblaaLinesC
namespace Go.Proofs.Ytooebihmkjkblaa
set_option linter.unusedSimpArgs false
set_option linter.unusedVariables false
open Go
def bareL (l : List UInt8) : List UInt8 := if l.getLast? = some 13 then l.dropLast else l
theorem bareL_le (l : List UInt8) : (bareL l).length ≤ l.length := by unfold bareL; split <;> simp
theorem bareL_take (l : List UInt8) : l.take (bareL l).length = bareL l := by
  unfold bareL; split
  · rw [List.length_dropLast, List.dropLast_eq_take]
  · simp
/-- A line of a text, cut at mx bytes. -/
def lineL (mx : Nat) (l : List UInt8) : List UInt8 × Bool := (l.take mx, decide (mx < l.length))
theorem lenS_c [Gh] {h : Heap} {b mx : Nat} {a : Option Addr} {B : List UInt8} (s : SplS h b a mx B) {Q : Value → Heap → Prop}
    (hk : Q (.int .i64 ((bareL B).length : Int)) h) : CallT Try.prog fn_lines_Splitter_length #[.pointer (some ⟨b, 0, none⟩)] h Q := by
  obtain ⟨h1, h2, ⟨c, hb, ho, hc⟩, h4⟩ := s
  refine length_c hb (by omega) ?_
  have e : (if decide (B.getLast? = some 13) = true then (B.length : Int) - 1 else B.length) = ((bareL B).length : Int) := by
    unfold bareL
    by_cases hl : B.getLast? = some 13
    · rw [if_pos hl, if_pos (by simpa using hl), List.length_dropLast]
      have : B ≠ [] := by rintro rfl; simp at hl
      have := List.length_pos_iff.2 this
      omega
    · rw [if_neg hl, if_neg (by simpa using hl)]
  rw [e]; exact hk
theorem Take_c [Gh] {h : Heap} {b mx : Nat} {a : Option Addr} {B : List UInt8} (s : SplS h b a mx B) {Q : Value → Heap → Prop}
    (hk : ∀ h', SplS h' b a mx [] → Fr (· = b) h h' → Q (.string (bs (B.take (mx + 1)))) h') : CallT Try.prog fn_lines_Splitter_Take #[.pointer (some ⟨b, 0, none⟩)] h Q := by
  refine lines_Splitter_Take_s _ ?_
  simp only [lines_Splitter_Take_b3, lines_Splitter_Take_b5, lines_Splitter_Take_b4, lines_Splitter_Take_b2, lines_Splitter_Take_b1, lines_Splitter_Take_v]
  have s' := s
  obtain ⟨h1, h2, ⟨c, ⟨t, hb⟩, ho, hc⟩, h4⟩ := s'
  simp only [nn, add_mk, ldI, ldB, ldS, ldP, ldL, ldM, ldV, hcell_mk, st1, stN, hfrozen_mk, hset_get, objSet, sliceSl, cellV, alV, push_get, and_assoc, objSet_cells, Option.isSome_some, Option.isSome_none, Option.isSome_map, Option.map_some, List.getElem?_toArray, List.getElem?_cons_zero, List.getElem?_cons_succ, List.getElem?_nil, List.setIfInBounds_toArray, List.set_cons_zero, List.set_cons_succ, Option.some.injEq, Value.int.injEq, Value.slice.injEq, Value.bool.injEq, Value.string.injEq, Value.pointer.injEq, Value.map.injEq, Value.agg.injEq, Value.tuple.injEq, true_and, and_true, if_true, if_false, ite_true, ite_false, Nat.reduceAdd, Nat.zero_add, Nat.add_zero, Nat.not_lt_zero, Nat.zero_le, decide_true, decide_false, Bool.and_false, Bool.false_eq_true, Bool.true_and, Bool.false_and, Nat.reduceLeDiff, Nat.reduceLT, Nat.le_refl, exists_eq_left', exists_eq_left, exists_eq_right, exists_and_left, exists_const, reduceCtorEq, false_and, and_false, Int.reduceToNat, Int.le_refl, hb, Option.isNone_some]
  rw [wr (by omega) (by omega)]
  refine first_c s _ _ (by omega) (by omega) ⟨_, rfl, ?_⟩
  refine forgetS_c s fun h' s' hf => ?_
  have e : min (min ((B.length : Int)).toNat ((mx : Int) + 1).toNat) (mx + 1) = min B.length (mx + 1) := by omega
  rw [e]
  have e2 : B.take (min B.length (mx + 1)) = B.take (mx + 1) := by rw [Nat.min_comm, ← List.take_take, List.take_length]
  rw [e2]
  exact hk h' s' hf
theorem Rest_c [Gh] {h : Heap} {b mx : Nat} {a : Option Addr} {B : List UInt8} (s : SplS h b a mx B) {Q : Value → Heap → Prop}
    (hk : Q (.string (bs (lineL mx (bareL B)).1)) h) : CallT Try.prog fn_lines_Splitter_Rest #[.pointer (some ⟨b, 0, none⟩)] h Q := by
  refine lines_Splitter_Rest_s _ ?_
  simp only [lines_Splitter_Rest_b3, lines_Splitter_Rest_b4, lines_Splitter_Rest_b2, lines_Splitter_Rest_b1, lines_Splitter_Rest_v]
  have s' := s
  obtain ⟨h1, h2, ⟨c, ⟨t, hb⟩, ho, hc⟩, h4⟩ := s'
  simp only [nn, add_mk, ldI, ldB, ldS, ldP, ldL, ldM, ldV, hcell_mk, st1, stN, hfrozen_mk, hset_get, objSet, sliceSl, cellV, alV, push_get, and_assoc, objSet_cells, Option.isSome_some, Option.isSome_none, Option.isSome_map, Option.map_some, List.getElem?_toArray, List.getElem?_cons_zero, List.getElem?_cons_succ, List.getElem?_nil, List.setIfInBounds_toArray, List.set_cons_zero, List.set_cons_succ, Option.some.injEq, Value.int.injEq, Value.slice.injEq, Value.bool.injEq, Value.string.injEq, Value.pointer.injEq, Value.map.injEq, Value.agg.injEq, Value.tuple.injEq, true_and, and_true, if_true, if_false, ite_true, ite_false, Nat.reduceAdd, Nat.zero_add, Nat.add_zero, Nat.not_lt_zero, Nat.zero_le, decide_true, decide_false, Bool.and_false, Bool.false_eq_true, Bool.true_and, Bool.false_and, Nat.reduceLeDiff, Nat.reduceLT, Nat.le_refl, exists_eq_left', exists_eq_left, exists_eq_right, exists_and_left, exists_const, reduceCtorEq, false_and, and_false, Int.reduceToNat, Int.le_refl, hb, Option.isNone_some]
  refine lenS_c s ⟨_, rfl, ?_⟩
  simp only [nn, add_mk, ldI, ldB, ldS, ldP, ldL, ldM, ldV, hcell_mk, st1, stN, hfrozen_mk, hset_get, objSet, sliceSl, cellV, alV, push_get, and_assoc, objSet_cells, Option.isSome_some, Option.isSome_none, Option.isSome_map, Option.map_some, List.getElem?_toArray, List.getElem?_cons_zero, List.getElem?_cons_succ, List.getElem?_nil, List.setIfInBounds_toArray, List.set_cons_zero, List.set_cons_succ, Option.some.injEq, Value.int.injEq, Value.slice.injEq, Value.bool.injEq, Value.string.injEq, Value.pointer.injEq, Value.map.injEq, Value.agg.injEq, Value.tuple.injEq, true_and, and_true, if_true, if_false, ite_true, ite_false, Nat.reduceAdd, Nat.zero_add, Nat.add_zero, Nat.not_lt_zero, Nat.zero_le, decide_true, decide_false, Bool.and_false, Bool.false_eq_true, Bool.true_and, Bool.false_and, Nat.reduceLeDiff, Nat.reduceLT, Nat.le_refl, exists_eq_left', exists_eq_left, exists_eq_right, exists_and_left, exists_const, reduceCtorEq, false_and, and_false, Int.reduceToNat, Int.le_refl, hb]
  refine first_c s _ _ (by omega) (by omega) ⟨_, rfl, ?_⟩
  have e : min (min (((bareL B).length : Int)).toNat ((mx : Int)).toNat) (mx + 1) = min mx (bareL B).length := by omega
  rw [e, ← List.take_take, bareL_take]
  exact hk
/-- The cells of a list of lines. -/
def linesV (l : List (List UInt8 × Bool)) : List Value := l.flatMap fun x => [.string (bs x.1), .bool x.2]
theorem linesV_len (l : List (List UInt8 × Bool)) : (linesV l).length = l.length * 2 := by
  induction l with
  | nil => rfl
  | cons x l ih => simp only [linesV, List.flatMap_cons, List.length_append, List.length_cons] at ih ⊢; simp only [List.length_nil]; omega
theorem linesV_append (l m : List (List UInt8 × Bool)) : linesV (l ++ m) = linesV l ++ linesV m := by simp [linesV]
theorem linesV_cellV (l : List (List UInt8 × Bool)) : ∀ v ∈ linesV l, cellV v = true := by
  intro v hv
  simp only [linesV, List.mem_flatMap] at hv
  obtain ⟨x, _, hx⟩ := hv
  simp only [List.mem_cons, List.not_mem_nil, or_false] at hx
  rcases hx with rfl | rfl <;> rfl
def closeL (mx : Nat) (B : List UInt8) : List (List UInt8 × Bool) := if B = [] then [] else [lineL mx B]
theorem Close_c [Gh] {h : Heap} {b mx : Nat} {a : Option Addr} {B : List UInt8} (s : SplS h b a mx B) {Q : Value → Heap → Prop}
    (hk : ∀ h' r c, SplS h' b a mx [] → Fr (· = b) h h' → OwnC h' r c 2 (linesV (closeL mx B)) → (closeL mx B).length ≤ c → (∀ x, InA r x → h.size ≤ x) → Q (.slice r (closeL mx B).length c) h') :
    CallT Try.prog fn_lines_Splitter_Close #[.pointer (some ⟨b, 0, none⟩)] h Q := by
  refine lines_Splitter_Close_s _ ?_
  simp only [lines_Splitter_Close_b3, lines_Splitter_Close_b4, lines_Splitter_Close_b2, lines_Splitter_Close_b1, lines_Splitter_Close_v]
  have s' := s
  obtain ⟨h1, h2, ⟨c, ⟨t, hb⟩, ho, hc⟩, h4⟩ := s'
  simp only [nn, add_mk, ldI, ldB, ldS, ldP, ldL, ldM, ldV, hcell_mk, st1, stN, hfrozen_mk, hset_get, objSet, sliceSl, cellV, alV, push_get, and_assoc, objSet_cells, Option.isSome_some, Option.isSome_none, Option.isSome_map, Option.map_some, List.getElem?_toArray, List.getElem?_cons_zero, List.getElem?_cons_succ, List.getElem?_nil, List.setIfInBounds_toArray, List.set_cons_zero, List.set_cons_succ, Option.some.injEq, Value.int.injEq, Value.slice.injEq, Value.bool.injEq, Value.string.injEq, Value.pointer.injEq, Value.map.injEq, Value.agg.injEq, Value.tuple.injEq, true_and, and_true, if_true, if_false, ite_true, ite_false, Nat.reduceAdd, Nat.zero_add, Nat.add_zero, Nat.not_lt_zero, Nat.zero_le, decide_true, decide_false, Bool.and_false, Bool.false_eq_true, Bool.true_and, Bool.false_and, Nat.reduceLeDiff, Nat.reduceLT, Nat.le_refl, exists_eq_left', exists_eq_left, exists_eq_right, exists_and_left, exists_const, reduceCtorEq, false_and, and_false, Int.reduceToNat, Int.le_refl, hb, Option.isNone_some]
  by_cases hB : B = []
  · subst hB
    have e : (((([] : List UInt8).length : Nat) : Int) == 0) = true := rfl
    rw [if_pos e]
    exact hk h none 0 s (Fr.refl _ _) ⟨rfl, rfl⟩ (by simp [closeL]) (by rintro x ⟨_, h, _⟩; cases h)
  · have hp := List.length_pos_iff.2 hB
    have e : ¬ (((B.length : Nat) : Int) == 0) = true := by rw [beq_iff_eq]; omega
    rw [if_neg e]
    refine line_c s _ (by omega) (by omega) fun h' s' hf => ⟨_, _, rfl, ?_⟩
    have hcl : closeL mx B = [lineL mx B] := if_neg hB
    have e2 : min ((B.length : Int)).toNat mx = min mx B.length := by omega
    have e3 : B.take (min mx B.length) = B.take mx := by rw [← List.take_take, List.take_length]
    have e4 : decide ((B.length : Int) > mx) = decide (mx < B.length) := by rw [decide_eq_decide]; omega
    rw [e2, e3, e4]
    have hbl := s'.lt (.inl rfl)
    have := hk (h'.push (.cells #[.string (bs (B.take mx)), .bool (decide (mx < B.length))] 38 (0, 0))) (some ⟨h'.size, 0, none⟩) 1
      (s'.fr (Fr.push (fun _ => False) _ _) (fun _ _ => id)) (hf.push' _) ⟨rfl, rfl, _, _, get_push_self, by simp, by rw [linesV_len, hcl]; simp, ?_⟩ (by rw [hcl]; simp) ?_
    · rw [hcl] at this; exact this
    · rw [hcl]
      intro i hi
      simp only [linesV, lineL, List.flatMap_cons, List.flatMap_nil, List.append_nil, List.length_cons, List.length_nil] at hi ⊢
      match i, hi with
      | 0, _ => rfl
      | 1, _ => rfl
    · rintro x ⟨ad, h, rfl⟩; cases h; exact hf.size
end Go.Proofs.Ytooebihmkjkblaa
