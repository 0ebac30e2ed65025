/-
  The splitter's append.
-/
import Derived.Test.YtooebihmkjkblaaLinesA
namespace Go.Proofs.Ytooebihmkjkblaa
set_option linter.unusedSimpArgs false
set_option linter.unusedVariables false
open Go
theorem lst_eq_nil (l : List UInt8) : ((bs l).toList == (⟨#[]⟩ : ByteArray).toList) = l.isEmpty := by
  rw [mk_bs, bs_toList, bs_toList]; cases l <;> rfl
theorem elem_u8 {i : TypeInfo} {z : Value} (h : ElemT Try.prog 36 5 i z) : i.size = 1 → True := fun _ => trivial
theorem t36 : ElemT Try.prog 36 5 Try.t5 (.int .u8 0) := ⟨rfl, rfl, rfl, rfl, by decide⟩
theorem last_append (B l : List UInt8) (hl : l ≠ []) : (B ++ l).getLast? = l.getLast? := by
  rw [List.getLast?_append]; cases h : l.getLast? with
  | none => rw [List.getLast?_eq_none_iff] at h; exact absurd h hl
  | some x => rfl
theorem getLast_getD (l : List UInt8) (hl : l ≠ []) : l.getLast? = some (l.getD (l.length - 1) 0) := by
  rw [List.getLast?_eq_getElem?, List.getD_eq_getElem?_getD]
  have : l.length - 1 < l.length := by have := List.length_pos_iff.2 hl; omega
  rw [List.getElem?_eq_getElem this]; rfl
theorem append_c [Gh] {h : Heap} {b mx : Nat} {a : Option Addr} {B : List UInt8} (s : SplS h b a mx B) (l : List UInt8) (hsm : (B ++ l).length < 2 ^ 40) {Q : Value → Heap → Prop}
    (hk : ∀ h' a', SplS h' b a' mx (B ++ l) → Fr (Own b a) h h' → (∀ x, InA a' x → InA a x ∨ h.size ≤ x) → Q (.tuple #[]) h') :
    CallT Try.prog fn_lines_Splitter_append #[.pointer (some ⟨b, 0, none⟩), .string (bs l)] h Q := by
  have s0 := s
  obtain ⟨h1, h2, ⟨c, ⟨t, hb⟩, ho, hc⟩, h4⟩ := s
  rw [List.length_append] at hsm
  refine lines_Splitter_append_s _ _ ?_
  simp only [lines_Splitter_append_b6, lines_Splitter_append_b5, lines_Splitter_append_b4, lines_Splitter_append_b3, lines_Splitter_append_b2, lines_Splitter_append_b1, lines_Splitter_append_v]
  rw [lst_eq_nil]
  by_cases hl : l = []
  · subst hl
    simp only [List.isEmpty_nil, if_true]
    exact hk h a (by rw [List.append_nil]; exact s0) (Fr.refl _ _) (fun x hx => .inl hx)
  have hlp : 0 < l.length := List.length_pos_iff.2 hl
  have hle : l.isEmpty = false := by cases l <;> simp_all
  rw [hle]
  simp only [nn, add_mk, ldI, ldB, ldS, ldP, ldL, ldM, ldV, hcell_mk, st1, stN, hfrozen_mk, hset_get, objSet, sliceSl, cellV, alV, push_get, and_assoc, objSet_cells, Option.isSome_some, Option.isSome_none, Option.isSome_map, Option.map_some, List.getElem?_toArray, List.getElem?_cons_zero, List.getElem?_cons_succ, List.getElem?_nil, List.setIfInBounds_toArray, List.set_cons_zero, List.set_cons_succ, Option.some.injEq, Value.int.injEq, Value.slice.injEq, Value.bool.injEq, Value.string.injEq, Value.pointer.injEq, Value.map.injEq, Value.agg.injEq, Value.tuple.injEq, true_and, and_true, if_true, if_false, ite_true, ite_false, Nat.reduceAdd, Nat.zero_add, Nat.add_zero, Nat.not_lt_zero, Nat.zero_le, decide_true, decide_false, Bool.and_false, Bool.false_eq_true, Bool.true_and, Bool.false_and, Nat.reduceLeDiff, Nat.reduceLT, Nat.le_refl, exists_eq_left', exists_eq_left, exists_eq_right, exists_and_left, exists_const, reduceCtorEq, false_and, and_false, Int.reduceToNat, Int.le_refl, hb, bs_size]
  rw [wr (x := (B.length : Int) + l.length) (by omega) (by omega), wr (x := (l.length : Int) - 1) (by omega) (by omega)]
  refine idxS_bs _ _ _ (by omega) (by omega) ?_
  have hlast : (((l.getD ((l.length : Int) - 1).toNat 0).toNat : Int) == 13) = decide ((B ++ l).getLast? = some 13) := by
    rw [last_append B l hl, getLast_getD l hl]
    have : ((l.length : Int) - 1).toNat = l.length - 1 := by omega
    rw [this]
    generalize l.getD (l.length - 1) 0 = x
    rw [Bool.eq_iff_iff]
    simp only [beq_iff_eq, decide_eq_true_eq, Option.some.injEq]
    constructor
    · intro h; exact UInt8.toNat_inj.1 (by have : (13 : UInt8).toNat = 13 := rfl; omega)
    · rintro rfl; rfl
  rw [hlast]
  generalize hh2 : hset (hset h ⟨b, 2, none⟩ (Value.int IntKind.i64 ((B.length : Int) + l.length))) ⟨b, 3, none⟩ (Value.bool (decide ((B ++ l).getLast? = some 13))) = h2
  have f2 : Fr (· = b) h h2 := by rw [← hh2]; exact ((Fr.refl (· = b) _).hset' (.inl rfl)).hset' (.inl rfl)
  have hb2 : h2[b]? = some (.cells #[.int .i64 mx, .slice a (B.take (mx + 1)).length c, .int .i64 ((B.length : Int) + l.length), .bool (decide ((B ++ l).getLast? = some 13))] t (0, 0)) := by
    rw [← hh2]; simp only [nn, add_mk, ldI, ldB, ldS, ldP, ldL, ldM, ldV, hcell_mk, st1, stN, hfrozen_mk, hset_get, objSet, sliceSl, cellV, alV, push_get, and_assoc, objSet_cells, Option.isSome_some, Option.isSome_none, Option.isSome_map, Option.map_some, List.getElem?_toArray, List.getElem?_cons_zero, List.getElem?_cons_succ, List.getElem?_nil, List.setIfInBounds_toArray, List.set_cons_zero, List.set_cons_succ, Option.some.injEq, Value.int.injEq, Value.slice.injEq, Value.bool.injEq, Value.string.injEq, Value.pointer.injEq, Value.map.injEq, Value.agg.injEq, Value.tuple.injEq, true_and, and_true, if_true, if_false, ite_true, ite_false, Nat.reduceAdd, Nat.zero_add, Nat.add_zero, Nat.not_lt_zero, Nat.zero_le, decide_true, decide_false, Bool.and_false, Bool.false_eq_true, Bool.true_and, Bool.false_and, Nat.reduceLeDiff, Nat.reduceLT, Nat.le_refl, exists_eq_left', exists_eq_left, exists_eq_right, exists_and_left, exists_const, reduceCtorEq, false_and, and_false, Int.reduceToNat, Int.le_refl, hb]
  have ho2 : OwnC h2 a c 1 (bytesV (B.take (mx + 1))) := ho.fr f2 (fun x hx hxb => h4 (hxb ▸ hx))
  have f2' : Fr (Own b a) h h2 := f2.mono fun x hx => .inl hx
  have hlen : (B.take (mx + 1)).length = min (mx + 1) B.length := List.length_take
  have hcast : ((B ++ l).length : Int) = (B.length : Int) + l.length := by simp
  rw [wr (x := (mx : Int) + 1) (by omega) (by omega), wr (x := (mx : Int) + 1 - (B.take (mx + 1)).length) (by omega) (by omega)]
  by_cases hroom : B.length < mx + 1
  · have hr : decide ((mx : Int) + 1 - (B.take (mx + 1)).length > 0) = true := by rw [decide_eq_true_eq]; omega
    rw [if_pos hr]
    have hk2 : (if (l.length : Int) < (mx : Int) + 1 - (B.take (mx + 1)).length then (l.length : Int) else (mx : Int) + 1 - (B.take (mx + 1)).length) = ((min l.length (mx + 1 - B.length) : Nat) : Int) := by
      split <;> omega
    rw [hk2]
    refine ⟨by omega, by rw [bs_size]; omega, ?_⟩
    rw [Int.toNat_natCast, bs_take]
    generalize hkk : min l.length (mx + 1 - B.length) = k
    have hkl : (l.take k).length = k := by rw [List.length_take]; omega
    refine append_own t36 (xT := 9) (d := .string) rfl (by simp) (m := k) (xs := bytesV (l.take k)) ho2 (by rw [bytesV_len]; show _ = _ * 1; omega) hc ?_ (bytesV_cellV _) ?_ ?_
    · have := Src.str (h := h2) (sz := 1) (bs (l.take k)) rfl
      rw [bs_data, bs_size, hkl] at this
      exact this
    · show _ * 1 ≤ _
      omega
    · intro a' cap' h3 ho3 hcap f3 hnew
      have hba' : ¬ InA a' b := fun hx => by
        rcases hnew b hx with hx | hx
        · exact h4 hx
        · have := lt_of_get hb2; omega
      have hb3 := f3.get hb2 h4
      have hbb : bytesV (B.take (mx + 1)) ++ bytesV (l.take k) = bytesV ((B ++ l).take (mx + 1)) := by
        unfold bytesV
        rw [← List.map_append]
        congr 1
        rw [List.take_append]
        congr 1
        rw [← hkk, Nat.min_comm, ← List.take_take, List.take_length]
      have hnn : (B.take (mx + 1)).length + k = ((B ++ l).take (mx + 1)).length := by
        rw [List.length_take, List.length_take, List.length_append]; omega
      refine ⟨_, _, _, rfl, ?_⟩
      simp only [nn, add_mk, ldI, ldB, ldS, ldP, ldL, ldM, ldV, hcell_mk, st1, stN, hfrozen_mk, hset_get, objSet, sliceSl, cellV, alV, push_get, and_assoc, objSet_cells, Option.isSome_some, Option.isSome_none, Option.isSome_map, Option.map_some, List.getElem?_toArray, List.getElem?_cons_zero, List.getElem?_cons_succ, List.getElem?_nil, List.setIfInBounds_toArray, List.set_cons_zero, List.set_cons_succ, Option.some.injEq, Value.int.injEq, Value.slice.injEq, Value.bool.injEq, Value.string.injEq, Value.pointer.injEq, Value.map.injEq, Value.agg.injEq, Value.tuple.injEq, true_and, and_true, if_true, if_false, ite_true, ite_false, Nat.reduceAdd, Nat.zero_add, Nat.add_zero, Nat.not_lt_zero, Nat.zero_le, decide_true, decide_false, Bool.and_false, Bool.false_eq_true, Bool.true_and, Bool.false_and, Nat.reduceLeDiff, Nat.reduceLT, Nat.le_refl, exists_eq_left', exists_eq_left, exists_eq_right, exists_and_left, exists_const, reduceCtorEq, false_and, and_false, Int.reduceToNat, Int.le_refl, hb3]
      refine hk _ a' ⟨h1, by rw [List.length_append]; omega, ⟨cap', ⟨t, ?_⟩, ?_, ?_⟩, hba'⟩ ?_ ?_
      · simp only [nn, add_mk, ldI, ldB, ldS, ldP, ldL, ldM, ldV, hcell_mk, st1, stN, hfrozen_mk, hset_get, objSet, sliceSl, cellV, alV, push_get, and_assoc, objSet_cells, Option.isSome_some, Option.isSome_none, Option.isSome_map, Option.map_some, List.getElem?_toArray, List.getElem?_cons_zero, List.getElem?_cons_succ, List.getElem?_nil, List.setIfInBounds_toArray, List.set_cons_zero, List.set_cons_succ, Option.some.injEq, Value.int.injEq, Value.slice.injEq, Value.bool.injEq, Value.string.injEq, Value.pointer.injEq, Value.map.injEq, Value.agg.injEq, Value.tuple.injEq, true_and, and_true, if_true, if_false, ite_true, ite_false, Nat.reduceAdd, Nat.zero_add, Nat.add_zero, Nat.not_lt_zero, Nat.zero_le, decide_true, decide_false, Bool.and_false, Bool.false_eq_true, Bool.true_and, Bool.false_and, Nat.reduceLeDiff, Nat.reduceLT, Nat.le_refl, exists_eq_left', exists_eq_left, exists_eq_right, exists_and_left, exists_const, reduceCtorEq, false_and, and_false, Int.reduceToNat, Int.le_refl, hb3]
        rw [hnn, hcast]
      · rw [← hbb]
        exact ho3.fr (Fr.hset (S := (· = b)) _ rfl) (fun x hx hxb => hba' (hxb ▸ hx))
      · omega
      · refine ((f2'.trans (f3.mono fun x hx => .inr hx))).hset' (.inl (.inl rfl))
      · intro x hx
        rcases hnew x hx with hx | hx
        · exact .inl hx
        · exact .inr (Nat.le_trans f2.size hx)
  · have hr : ¬ decide ((mx : Int) + 1 - (B.take (mx + 1)).length > 0) = true := by rw [decide_eq_true_eq]; omega
    rw [if_neg hr]
    have hbb : (B ++ l).take (mx + 1) = B.take (mx + 1) := by
      rw [List.take_append_of_le_length (by omega)]
    refine hk h2 a ⟨h1, by rw [List.length_append]; omega, ⟨c, ⟨t, ?_⟩, ?_, ?_⟩, h4⟩ f2' (fun x hx => .inl hx)
    · rw [hbb, hcast]; exact hb2
    · rw [hbb]; exact ho2
    · rw [hbb]; exact hc
end Go.Proofs.Ytooebihmkjkblaa
