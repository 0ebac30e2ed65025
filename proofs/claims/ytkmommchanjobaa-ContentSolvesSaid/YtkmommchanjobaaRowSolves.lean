/-
  ContentSolves: whatever the two contents, the tests and the data, the law returns true and leaves its arguments as they were.
-/
import Derived.Test.YtkmommchanjobaaRows
import Derived.Test.YtkmommchanjobaaContR
namespace Go.Proofs.Ytkmommchanjobaa.contentSolves
set_option linter.unusedSimpArgs false
set_option linter.unusedVariables false
open Go Go.ChangeShapes Go.WideShapes Go.ChangeAt Go.RowKit
open Go.ChangeMaps (open_string shut_string)
set_option maxRecDepth 100000 in
theorem lifted (os : Os) (started : os.Started) (H : Type) (enc : TypeId × Value → H) :
    ReturnsInHanded {} Try.checked os 6 .any (Rows.contentSolvesSpec.pre6 enc Try.prog Try.f6 Rows.contentSolvesRow.domain false) (Rows.contentSolvesSpec.post enc Try.prog Try.f6 false true false false) := by
  refine returnsInHanded_of_change_sized (C := Try.checked) own started (by kernel_rfl) Try.func6
    (ChangeSpec.witness6 (enc := enc) (C := Try.checked) false ⟨#[], #[.agg #[.string ByteArray.empty, .bool false, .bool false, .bool false, .int .i64 0, .int .i64 0, .bool false], .agg #[.string ByteArray.empty, .bool false, .bool false, .bool false, .int .i64 0, .int .i64 0, .bool false], .agg #[.slice none 0 0, .slice none 0 0, .string ByteArray.empty, .int .i64 0]], []⟩ 8 (by kernel_rfl) (by kernel_rfl) (by kernel_rfl) (by kernel_rfl)) ?_
  intro W base args ds gs before hval0 hW hcnd hsz0 _
  have hval : ∀ (j : Nat) t v, Try.f6.params[j]? = some t → args[j]? = some v → Value.okWide Try.prog W .any base t v := hval0
  have hW' := hW
  obtain ⟨p, q, hA0, hV, rfl, hfz, hnd⟩ := hW
  have hA : DataW.TrodAll enc Try.prog W 0 (fun _ => true) true Try.f6.params.toList args.toList ds p := hA0
  rw [Try.params6] at hA hval
  obtain ⟨v0, vs0, d0, ds0, p0, q0, hargs, rfl, rfl, h0, r0⟩ := trodAll_cons hA
  obtain ⟨v1, vs1, d1, ds1, p1, q1, rfl, rfl, rfl, h1, r1⟩ := trodAll_cons r0
  obtain ⟨v2, vs2, d2, ds2, p2, q2, rfl, rfl, rfl, h2, r2⟩ := trodAll_cons r1
  obtain ⟨rfl, rfl, rfl⟩ := trodAll_nil r2
  obtain rfl : args = #[v0, v1, v2] := by cases args; simp_all
  obtain ⟨rfl, rfl⟩ := trodVars_none hV
  obtain ⟨c0, rfl, _⟩ := okWide_struct Try.underlying23 (hval 0 23 v0 rfl rfl)
  obtain ⟨c1, rfl, _⟩ := okWide_struct Try.underlying23 (hval 1 23 v1 rfl rfl)
  obtain ⟨c2, rfl, _⟩ := okWide_struct Try.underlying38 (hval 2 38 v2 rfl rfl)
  have k0 := h0
  have k1 := h1
  have k2 := h2
  have lt0 : ∀ x ∈ p0, x.block < W.heap.size := by obtain ⟨m, hm⟩ := k0; exact DataW.trod_lt m _ _ _ hm
  have lt1 : ∀ x ∈ p1, x.block < W.heap.size := by obtain ⟨m, hm⟩ := k1; exact DataW.trod_lt m _ _ _ hm
  have lt2 : ∀ x ∈ p2, x.block < W.heap.size := by obtain ⟨m, hm⟩ := k2; exact DataW.trod_lt m _ _ _ hm
  obtain ⟨a, ha⟩ : ∃ t : Cn, c0 = (cnV t).toArray := by
    obtain ⟨fuel, hf⟩ := h0
    obtain ⟨t, ht⟩ := openCn hf
    exact ⟨t, by rw [← ht]; simp [Value.cells]⟩
  obtain ⟨b, hb⟩ : ∃ t : Cn, c1 = (cnV t).toArray := by
    obtain ⟨fuel, hf⟩ := h1
    obtain ⟨t, ht⟩ := openCn hf
    exact ⟨t, by rw [← ht]; simp [Value.cells]⟩
  subst ha hb
  obtain ⟨La, lc, Ta, tc, ls, ts, d, bud, ht, rc, rt, _⟩ : ∃ (La : Option Addr) (lc : Nat) (Ta : Option Addr) (tc : Nat) (ls : List Cn) (ts : List Ts) (d : List UInt8) (bud : Int), c2 = (caseV La ls.length lc Ta ts.length tc d bud).toArray ∧ RdC (fun _ => False) W.heap La ls ∧ RdT (fun _ => False) W.heap Ta ts ∧ (Lit.int .i64 bud).wf = true := by
    obtain ⟨fuel, hf⟩ := h2
    obtain ⟨La, lc, Ta, tc, ls, ts, d, bud, ht, rest⟩ := openCase hf
    exact ⟨La, lc, Ta, tc, ls, ts, d, bud, by rw [← ht]; simp [Value.cells], rest⟩
  subst ht
  clear hA0 hval0 hsz0
  refine (law_calls (Try.call6 _) (fun Q hk => ContentSolves_c a b d bud rt hk)).mono fun e W' ⟨he, bel⟩ => ?_
  subst he
  exact ⟨_, rfl, _, _, _, [], _, [], hW', trodAll_mk1 (shut_bool Try.underlying4 _), (trodAll_cons_mk (Below.trod laidOut (by kernel_rfl) (of_decide_eq_true (by kernel_rfl)) k0 bel lt0) (trodAll_cons_mk (Below.trod laidOut (by kernel_rfl) (of_decide_eq_true (by kernel_rfl)) k1 bel lt1) (trodAll_cons_mk (Below.trod laidOut (by kernel_rfl) (of_decide_eq_true (by kernel_rfl)) k2 bel lt2) trodAll_mk0))), rfl, bel.frame _, fun h => by cases h⟩
theorem over : Rows.contentSolvesRow.holds Try.pinned (OpenSpec.ofChange Rows.contentSolvesSpec) :=
  OpenClaim.holds_of_wide 6 Try.f6 rfl rfl rfl rfl rfl rfl rfl ⟨rfl, rfl, rfl, rfl, rfl⟩ rfl rfl rfl rfl rfl (by kernel_rfl) Try.func6 (by kernel_rfl)
    (of_decide_eq_true (by kernel_rfl)) (by unfold Func.isWrapper; first | (rw [if_pos (by decide +kernel)]; kernel_rfl) | (rw [if_neg (by decide +kernel)]; exact ⟨rfl, rfl⟩))
    (fun os started H enc _ => lifted os started H enc)
theorem proved : Rows.ContentSolvesSaid := over
end Go.Proofs.Ytkmommchanjobaa.contentSolves
namespace Go.Proofs.Ytkmommchanjobaa
/-- The row, under a short name, for the claim. -/
theorem contentSolves_holds : Rows.ContentSolvesSaid := contentSolves.proved
#print axioms contentSolves_holds
end Go.Proofs.Ytkmommchanjobaa
