/-
  Contracts of the splitter's methods that call nothing else.
-/
import Derived.Test.YtooebihmkjkblaaG1
import Derived.Test.YtooebihmkjkblaaHeap
namespace Go.Proofs.Ytooebihmkjkblaa
set_option linter.unusedSimpArgs false
set_option linter.unusedVariables false
open Go
/-- The cells of a splitter. -/
def Spl (h : Heap) (b : Nat) (mx : Int) (a : Option Addr) (n c : Nat) (m : Int) (e : Bool) : Prop :=
  ∃ t, h[b]? = some (.cells #[.int .i64 mx, .slice a n c, .int .i64 m, .bool e] t (0, 0))
theorem forget_c [Gh] {h : Heap} {b c n : Nat} {mx m : Int} {a : Option Addr} {e : Bool} (hb : Spl h b mx a n c m e) {K : Heap → Prop}
    (hk : ∀ h', Spl h' b mx a 0 c 0 false → Fr (· = b) h h' → K h') : CallDT Try.prog fn_lines_Splitter_forget #[.pointer (some ⟨b, 0, none⟩)] h K := by
  obtain ⟨t, hb⟩ := hb
  refine lines_Splitter_forget_d _ ?_
  simp only [lines_Splitter_forget_b1, lines_Splitter_forget_v]
  simp [nn, add_mk, ldI, ldB, ldS, ldP, ldL, ldM, ldV, hcell_mk, st1, stN, hfrozen_mk, hset_get, objSet, sliceSl, cellV, alV, push_get, and_assoc, hb]
  refine hk _ ⟨t, ?_⟩ ?_
  · simp [hset_get, hb, objSet]
  · exact (((Fr.refl (· = b) _).hset' (.inl rfl)).hset' (.inl rfl)).hset' (.inl rfl)
theorem length_c [Gh] {h : Heap} {b c n : Nat} {mx m : Int} {a : Option Addr} {e : Bool} (hb : Spl h b mx a n c m e) (hm : 0 ≤ m ∧ m < 2 ^ 62) {Q : Value → Heap → Prop}
    (hk : Q (.int .i64 (if e then m - 1 else m)) h) : CallT Try.prog fn_lines_Splitter_length #[.pointer (some ⟨b, 0, none⟩)] h Q := by
  obtain ⟨t, hb⟩ := hb
  refine lines_Splitter_length_s _ ?_
  simp only [lines_Splitter_length_b3, lines_Splitter_length_b4, lines_Splitter_length_b2, lines_Splitter_length_b1, lines_Splitter_length_v]
  cases e <;> simp [nn, add_mk, ldI, ldB, ldS, ldP, ldL, ldM, ldV, hcell_mk, st1, stN, hfrozen_mk, hset_get, objSet, sliceSl, cellV, alV, push_get, and_assoc, hb]
  · simpa using hk
  · rw [wr (by omega) (by omega)]; simpa using hk
def clampI (m : Int) : Int := if m < 1 then 1 else if m > 512 then 512 else m
theorem bound_c [Gh] (m : Int) {h : Heap} {Q : Value → Heap → Prop} (hk : Q (.int .i64 (clampI m)) h) : CallT Try.prog fn_lines_bound #[.int .i64 m] h Q := by
  refine lines_bound_s _ ?_
  simp only [lines_bound_b2, lines_bound_b1, lines_bound_v]
  have e : (if (512 : Int) < (if (1 : Int) > m then (1 : Int) else m) then (512 : Int) else (if (1 : Int) > m then (1 : Int) else m)) = clampI m := by
    unfold clampI; repeat' split
    all_goals omega
  rw [e]; exact hk
theorem New_c [Gh] (m : Int) {h : Heap} {Q : Value → Heap → Prop} (hk : ∀ h', Spl h' h.size (clampI m) none 0 0 0 false → Fr (fun _ => False) h h' → h'.size = h.size + 1 → Q (.pointer (some ⟨h.size, 0, none⟩)) h') : CallT Try.prog fn_lines_New #[.int .i64 m] h Q := by
  refine lines_New_s _ ?_
  simp only [lines_New_b2, lines_New_b1, lines_New_v]
  refine bound_c m ⟨_, rfl, ?_⟩
  simp only [nn, add_mk, ldI, ldB, ldS, ldP, ldL, ldM, ldV, hcell_mk, st1, stN, hfrozen_mk, hset_get, objSet, sliceSl, cellV, alV, push_get, and_assoc]
  exact hk _ ⟨_, get_push_self⟩ (Fr.push _ _ _) (by simp)

theorem Cells.initial {h : Heap} {a : Addr} {xs ys : List Value} (hc : Cells h a ys) (hp : xs <+: ys) : Cells h a xs := by
  obtain ⟨zs, rfl⟩ := hp
  intro j hj
  have := hc j (by simp; omega)
  rw [List.getElem_append_left hj] at this; exact this
/-- A splitter that holds B: its buffer has the first bytes of B. -/
structure SplS (h : Heap) (b : Nat) (a : Option Addr) (mx : Nat) (B : List UInt8) : Prop where
  bd : 1 ≤ mx ∧ mx ≤ 512
  small : B.length < 2 ^ 40
  ex : ∃ c, Spl h b mx a (B.take (mx + 1)).length c B.length (decide (B.getLast? = some 13)) ∧ OwnC h a c 1 (bytesV (B.take (mx + 1))) ∧ (B.take (mx + 1)).length ≤ c
  apart : ¬ InA a b
/-- The blocks of a splitter. -/
def Own (b : Nat) (a : Option Addr) (x : Nat) : Prop := x = b ∨ InA a x
theorem Spl.fr {S : Nat → Prop} {h h' : Heap} {b c n : Nat} {mx m : Int} {a : Option Addr} {e : Bool} (hb : Spl h b mx a n c m e) (hf : Fr S h h') (hs : ¬ S b) : Spl h' b mx a n c m e := by
  obtain ⟨t, hb⟩ := hb; exact ⟨t, hf.get hb hs⟩
theorem SplS.fr {S : Nat → Prop} {h h' : Heap} {b mx : Nat} {a : Option Addr} {B : List UInt8} (s : SplS h b a mx B) (hf : Fr S h h') (hs : ∀ x, Own b a x → ¬ S x) : SplS h' b a mx B := by
  obtain ⟨h1, h2, ⟨c, hb, ho, hc⟩, h4⟩ := s
  exact ⟨h1, h2, ⟨c, hb.fr hf (hs b (.inl rfl)), ho.fr hf (fun x hx => hs x (.inr hx)), hc⟩, h4⟩
theorem SplS.lt {h : Heap} {b mx : Nat} {a : Option Addr} {B : List UInt8} (s : SplS h b a mx B) {x : Nat} (hx : Own b a x) : x < h.size := by
  obtain ⟨h1, h2, ⟨c, ⟨t, hb⟩, ho, hc⟩, h4⟩ := s
  rcases hx with rfl | hx
  · exact lt_of_get hb
  · exact ho.lt hx
theorem NewS_c [Gh] (m : Int) {h : Heap} {Q : Value → Heap → Prop} (hk : ∀ h', SplS h' h.size none (clampI m).toNat [] → Fr (fun _ => False) h h' → h'.size = h.size + 1 → Q (.pointer (some ⟨h.size, 0, none⟩)) h') : CallT Try.prog fn_lines_New #[.int .i64 m] h Q := by
  refine New_c m fun h' hs hf hz => hk h' ⟨?_, by simp, ⟨0, ?_, ⟨rfl, rfl⟩, by simp⟩, ?_⟩ hf hz
  · unfold clampI; split <;> (try split) <;> omega
  · have : ((clampI m).toNat : Int) = clampI m := by unfold clampI; split <;> (try split) <;> omega
    rw [this]; exact hs
  · rintro ⟨_, h, _⟩; cases h
theorem first_c [Gh] {h : Heap} {b mx : Nat} {a : Option Addr} {B : List UInt8} (s : SplS h b a mx B) (n most : Int) (h0 : 0 ≤ n) (h3 : 0 ≤ most) {Q : Value → Heap → Prop}
    (hk : Q (.string (bs (B.take (min (min n.toNat most.toNat) (mx + 1))))) h) : CallT Try.prog fn_lines_Splitter_first #[.pointer (some ⟨b, 0, none⟩), .int .i64 n, .int .i64 most] h Q := by
  obtain ⟨h1, h2, ⟨c, ⟨t, hb⟩, ho, hc⟩, h4⟩ := s
  refine lines_Splitter_first_s _ _ _ ?_
  simp only [lines_Splitter_first_b3, lines_Splitter_first_b2, lines_Splitter_first_b1, lines_Splitter_first_v]
  simp only [nn, add_mk, ldI, ldB, ldS, ldP, ldL, ldM, ldV, hcell_mk, st1, stN, hfrozen_mk, hset_get, objSet, sliceSl, cellV, alV, push_get, and_assoc, objSet_cells, Option.isSome_some, Option.isSome_none, Option.isSome_map, Option.map_some, List.getElem?_toArray, List.getElem?_cons_zero, List.getElem?_cons_succ, List.getElem?_nil, List.setIfInBounds_toArray, List.set_cons_zero, List.set_cons_succ, Option.some.injEq, Value.int.injEq, Value.slice.injEq, Value.bool.injEq, Value.string.injEq, Value.pointer.injEq, Value.map.injEq, Value.agg.injEq, Value.tuple.injEq, true_and, and_true, if_true, if_false, ite_true, ite_false, Nat.reduceAdd, Nat.zero_add, Nat.add_zero, Nat.not_lt_zero, Nat.zero_le, decide_true, decide_false, Bool.and_false, Bool.false_eq_true, Bool.true_and, Bool.false_and, Nat.reduceLeDiff, Nat.reduceLT, Nat.le_refl, exists_eq_left', exists_eq_left, exists_eq_right, exists_and_left, exists_const, reduceCtorEq, false_and, and_false, Int.reduceToNat, Int.le_refl, hb]
  have hlen : (B.take (mx + 1)).length = min (mx + 1) B.length := List.length_take
  have e : (if (((B.take (mx + 1)).length : Nat) : Int) < (if most < n then most else n) then (((B.take (mx + 1)).length : Nat) : Int) else (if most < n then most else n)) = ((min (min n.toNat most.toNat) (B.take (mx + 1)).length : Nat) : Int) := by
    split <;> split <;> omega
  rw [e]
  refine ⟨by omega, by omega, ?_⟩
  refine conv_bytes (l := B.take (min (min n.toNat most.toNat) (mx + 1))) rfl rfl rfl ?_ (fun ad ha => ?_) (fun ha => ?_) ⟨_, rfl, hk⟩
  · simp only [List.length_take]; omega
  · subst ha
    refine ho.cells.initial ?_
    rw [show B.take (min (min n.toNat most.toNat) (mx + 1)) = (B.take (mx + 1)).take (min n.toNat most.toNat) by rw [List.take_take]]
    exact (List.take_prefix _ _).map _
  · subst ha
    have := ho.1
    simp [bytesV] at this
    simp [this]
end Go.Proofs.Ytooebihmkjkblaa
