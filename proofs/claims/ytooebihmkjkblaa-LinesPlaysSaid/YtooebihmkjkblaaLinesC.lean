/-
  The splitter's line.
-/
import Derived.Test.YtooebihmkjkblaaLinesB
namespace Go.Proofs.Ytooebihmkjkblaa
set_option linter.unusedSimpArgs false
set_option linter.unusedVariables false
open Go
theorem forgetS_c [Gh] {h : Heap} {b mx : Nat} {a : Option Addr} {B : List UInt8} (s : SplS h b a mx B) {K : Heap → Prop} (hk : ∀ h', SplS h' b a mx [] → Fr (· = b) h h' → K h') :
    CallDT Try.prog fn_lines_Splitter_forget #[.pointer (some ⟨b, 0, none⟩)] h K := by
  obtain ⟨h1, h2, ⟨c, hb, ho, hc⟩, h4⟩ := s
  refine forget_c hb fun h' hb' hf => hk h' ⟨h1, by simp, ⟨c, hb', ?_, by simp⟩, h4⟩ hf
  have := ho.fr hf (fun x hx hxb => h4 (hxb ▸ hx))
  cases a with
  | none => exact ⟨rfl, this.2⟩
  | some ad =>
    obtain ⟨e1, e2, ds, t, hg, e3, e4, e5⟩ := this
    exact ⟨e1, e2, ds, t, hg, e3, by simp [bytesV], fun i hi => by simp [bytesV] at hi⟩
theorem line_c [Gh] {h : Heap} {b mx : Nat} {a : Option Addr} {B : List UInt8} (s : SplS h b a mx B) (n : Int) (h0 : 0 ≤ n) (hn : n < 2 ^ 40) {Q : Value → Heap → Prop}
    (hk : ∀ h', SplS h' b a mx [] → Fr (· = b) h h' → Q (.agg #[.string (bs (B.take (min n.toNat mx))), .bool (decide (n > mx))]) h') :
    CallT Try.prog fn_lines_Splitter_line #[.pointer (some ⟨b, 0, none⟩), .int .i64 n] h Q := by
  refine lines_Splitter_line_s _ _ ?_
  simp only [lines_Splitter_line_b3, lines_Splitter_line_b2, lines_Splitter_line_b1, lines_Splitter_line_v]
  simp only [alV]
  generalize hh1 : h.push (Obj.cells #[Value.string ⟨#[]⟩, Value.bool false] 38) = h1
  have f1 : Fr (fun _ => False) h h1 := by rw [← hh1]; exact Fr.push _ _ _
  have hr1 : h1[h.size]? = some (.cells #[.string (bs []), .bool false] 38 (0, 0)) := by rw [← hh1]; exact get_push_self
  have hbl : b < h.size := s.lt (.inl rfl)
  have hal : ∀ x, InA a x → x < h.size := fun x hx => s.lt (.inr hx)
  have s1 := s.fr f1 (fun _ _ => id)
  have s1' := s1
  obtain ⟨q1, q2, ⟨c, ⟨t, hb⟩, ho, hc⟩, q4⟩ := s1'
  have hne : h.size ≠ b := by omega
  have hne' : b ≠ h.size := by omega
  simp only [nn, add_mk, ldI, ldB, ldS, ldP, ldL, ldM, ldV, hcell_mk, st1, stN, hfrozen_mk, hset_get, objSet, sliceSl, cellV, alV, push_get, and_assoc, objSet_cells, Option.isSome_some, Option.isSome_none, Option.isSome_map, Option.map_some, List.getElem?_toArray, List.getElem?_cons_zero, List.getElem?_cons_succ, List.getElem?_nil, List.setIfInBounds_toArray, List.set_cons_zero, List.set_cons_succ, Option.some.injEq, Value.int.injEq, Value.slice.injEq, Value.bool.injEq, Value.string.injEq, Value.pointer.injEq, Value.map.injEq, Value.agg.injEq, Value.tuple.injEq, true_and, and_true, if_true, if_false, ite_true, ite_false, Nat.reduceAdd, Nat.zero_add, Nat.add_zero, Nat.not_lt_zero, Nat.zero_le, decide_true, decide_false, Bool.and_false, Bool.false_eq_true, Bool.true_and, Bool.false_and, Nat.reduceLeDiff, Nat.reduceLT, Nat.le_refl, exists_eq_left', exists_eq_left, exists_eq_right, exists_and_left, exists_const, reduceCtorEq, false_and, and_false, Int.reduceToNat, Int.le_refl, hb, hr1, hne, hne']
  refine first_c s1 n mx h0 (by omega) ?_
  refine ⟨_, rfl, ?_⟩
  simp only [nn, add_mk, ldI, ldB, ldS, ldP, ldL, ldM, ldV, hcell_mk, st1, stN, hfrozen_mk, hset_get, objSet, sliceSl, cellV, alV, push_get, and_assoc, objSet_cells, Option.isSome_some, Option.isSome_none, Option.isSome_map, Option.map_some, List.getElem?_toArray, List.getElem?_cons_zero, List.getElem?_cons_succ, List.getElem?_nil, List.setIfInBounds_toArray, List.set_cons_zero, List.set_cons_succ, Option.some.injEq, Value.int.injEq, Value.slice.injEq, Value.bool.injEq, Value.string.injEq, Value.pointer.injEq, Value.map.injEq, Value.agg.injEq, Value.tuple.injEq, true_and, and_true, if_true, if_false, ite_true, ite_false, Nat.reduceAdd, Nat.zero_add, Nat.add_zero, Nat.not_lt_zero, Nat.zero_le, decide_true, decide_false, Bool.and_false, Bool.false_eq_true, Bool.true_and, Bool.false_and, Nat.reduceLeDiff, Nat.reduceLT, Nat.le_refl, exists_eq_left', exists_eq_left, exists_eq_right, exists_and_left, exists_const, reduceCtorEq, false_and, and_false, Int.reduceToNat, Int.le_refl, hb, hr1, hne, hne']
  generalize hh2 : hset (hset (hset (hset h1 ⟨h.size, 0, none⟩ (Value.string ⟨#[]⟩)) ⟨h.size, 1, none⟩ (Value.bool false)) ⟨h.size, 0, none⟩ (Value.string (bs (B.take (min (min n.toNat (mx : Int).toNat) (mx + 1)))))) ⟨h.size, 1, none⟩ (Value.bool (decide (n > mx))) = h2
  have f2 : Fr (· = h.size) h1 h2 := by rw [← hh2]; exact ((((Fr.refl (· = h.size) _).hset' (.inl rfl)).hset' (.inl rfl)).hset' (.inl rfl)).hset' (.inl rfl)
  have hr2 : h2[h.size]? = some (.cells #[.string (bs (B.take (min n.toNat mx))), .bool (decide (n > mx))] 38 (0, 0)) := by
    rw [← hh2]; simp only [nn, add_mk, ldI, ldB, ldS, ldP, ldL, ldM, ldV, hcell_mk, st1, stN, hfrozen_mk, hset_get, objSet, sliceSl, cellV, alV, push_get, and_assoc, objSet_cells, Option.isSome_some, Option.isSome_none, Option.isSome_map, Option.map_some, List.getElem?_toArray, List.getElem?_cons_zero, List.getElem?_cons_succ, List.getElem?_nil, List.setIfInBounds_toArray, List.set_cons_zero, List.set_cons_succ, Option.some.injEq, Value.int.injEq, Value.slice.injEq, Value.bool.injEq, Value.string.injEq, Value.pointer.injEq, Value.map.injEq, Value.agg.injEq, Value.tuple.injEq, true_and, and_true, if_true, if_false, ite_true, ite_false, Nat.reduceAdd, Nat.zero_add, Nat.add_zero, Nat.not_lt_zero, Nat.zero_le, decide_true, decide_false, Bool.and_false, Bool.false_eq_true, Bool.true_and, Bool.false_and, Nat.reduceLeDiff, Nat.reduceLT, Nat.le_refl, exists_eq_left', exists_eq_left, exists_eq_right, exists_and_left, exists_const, reduceCtorEq, false_and, and_false, Int.reduceToNat, Int.le_refl, hr1]
    have : min (min n.toNat (mx : Int).toNat) (mx + 1) = min n.toNat mx := by omega
    rw [this]
  have s2 := s1.fr f2 (fun x hx hxe => by
    rcases hx with rfl | hx
    · omega
    · have := hal x hx; omega)
  refine forgetS_c s2 fun h3 s3 f3 => ?_
  have hr3 := f3.get hr2 hne
  simp only [nn, add_mk, ldI, ldB, ldS, ldP, ldL, ldM, ldV, hcell_mk, st1, stN, hfrozen_mk, hset_get, objSet, sliceSl, cellV, alV, push_get, and_assoc, objSet_cells, Option.isSome_some, Option.isSome_none, Option.isSome_map, Option.map_some, List.getElem?_toArray, List.getElem?_cons_zero, List.getElem?_cons_succ, List.getElem?_nil, List.setIfInBounds_toArray, List.set_cons_zero, List.set_cons_succ, Option.some.injEq, Value.int.injEq, Value.slice.injEq, Value.bool.injEq, Value.string.injEq, Value.pointer.injEq, Value.map.injEq, Value.agg.injEq, Value.tuple.injEq, true_and, and_true, if_true, if_false, ite_true, ite_false, Nat.reduceAdd, Nat.zero_add, Nat.add_zero, Nat.not_lt_zero, Nat.zero_le, decide_true, decide_false, Bool.and_false, Bool.false_eq_true, Bool.true_and, Bool.false_and, Nat.reduceLeDiff, Nat.reduceLT, Nat.le_refl, exists_eq_left', exists_eq_left, exists_eq_right, exists_and_left, exists_const, reduceCtorEq, false_and, and_false, Int.reduceToNat, Int.le_refl, hr3]
  refine hk h3 s3 ⟨Nat.le_trans f1.size (Nat.le_trans f2.size f3.size), fun x hx hxb => ?_⟩
  rw [f3.same x (by have := f1.size; have := f2.size; omega) hxb, f2.same x (by have := f1.size; omega) (by omega), f1.same x hx id]
end Go.Proofs.Ytooebihmkjkblaa
