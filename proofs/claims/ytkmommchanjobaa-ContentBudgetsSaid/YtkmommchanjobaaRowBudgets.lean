/-
  ContentBudgets: whatever the contents, the tests, the data and the numbers, the law returns true and leaves its arguments as they were.
-/
import Derived.Test.YtkmommchanjobaaRows
import Derived.Test.YtkmommchanjobaaContO
namespace Go.Proofs.Ytkmommchanjobaa.contentBudgets
set_option linter.unusedSimpArgs false
set_option linter.unusedVariables false
open Go Go.ChangeShapes Go.WideShapes Go.ChangeAt Go.RowKit
open Go.ChangeMaps (open_string shut_string)
set_option maxRecDepth 100000 in
theorem lifted (os : Os) (started : os.Started) (H : Type) (enc : TypeId × Value → H) :
    ReturnsInHanded {} Try.checked os 7 .any (Rows.contentBudgetsSpec.pre6 enc Try.prog Try.f7 Rows.contentBudgetsRow.domain false) (Rows.contentBudgetsSpec.post enc Try.prog Try.f7 false true false false) := by
  refine returnsInHanded_of_change_sized (C := Try.checked) own started (by kernel_rfl) Try.func7
    (ChangeSpec.witness6 (enc := enc) (C := Try.checked) false ⟨#[], #[.agg #[.slice none 0 0, .slice none 0 0, .string ByteArray.empty, .int .i64 0], .int .u16 0, .int .u16 0], []⟩ 8 (by kernel_rfl) (by kernel_rfl) (by kernel_rfl) (by kernel_rfl)) ?_
  intro W base args ds gs before hval0 hW hcnd hsz0 _
  have hval : ∀ (j : Nat) t v, Try.f7.params[j]? = some t → args[j]? = some v → Value.okWide Try.prog W .any base t v := hval0
  have hW' := hW
  obtain ⟨p, q, hA0, hV, rfl, hfz, hnd⟩ := hW
  have hA : DataW.TrodAll enc Try.prog W 0 (fun _ => true) true Try.f7.params.toList args.toList ds p := hA0
  rw [Try.params7] at hA hval
  obtain ⟨v0, vs0, d0, ds0, p0, q0, hargs, rfl, rfl, h0, r0⟩ := trodAll_cons hA
  obtain ⟨v1, vs1, d1, ds1, p1, q1, rfl, rfl, rfl, h1, r1⟩ := trodAll_cons r0
  obtain ⟨v2, vs2, d2, ds2, p2, q2, rfl, rfl, rfl, h2, r2⟩ := trodAll_cons r1
  obtain ⟨rfl, rfl, rfl⟩ := trodAll_nil r2
  obtain rfl : args = #[v0, v1, v2] := by cases args; simp_all
  obtain ⟨rfl, rfl⟩ := trodVars_none hV
  obtain ⟨a1, rfl, rfl, rfl, w1⟩ := open_int Try.underlying44 (hval 1 44 v1 rfl rfl) h1
  obtain ⟨a2, rfl, rfl, rfl, w2⟩ := open_int Try.underlying44 (hval 2 44 v2 rfl rfl) h2
  have b1 : 0 ≤ a1 ∧ a1 ≤ 65535 := by simpa [Lit.wf, IntKind.min, IntKind.max, IntKind.signed, IntKind.bits] using w1
  have b2 : 0 ≤ a2 ∧ a2 ≤ 65535 := by simpa [Lit.wf, IntKind.min, IntKind.max, IntKind.signed, IntKind.bits] using w2
  obtain ⟨c0, rfl, _⟩ := okWide_struct Try.underlying38 (hval 0 38 v0 rfl rfl)
  have k0 := h0
  have lt0 : ∀ x ∈ p0, x.block < W.heap.size := by obtain ⟨m, hm⟩ := k0; exact DataW.trod_lt m _ _ _ hm
  obtain ⟨La, lc, Ta, tc, ls, ts, d, bud, ht, rc, rt, _⟩ : ∃ (La : Option Addr) (lc : Nat) (Ta : Option Addr) (tc : Nat) (ls : List Cn) (ts : List Ts) (d : List UInt8) (bud : Int), c0 = (caseV La ls.length lc Ta ts.length tc d bud).toArray ∧ RdC (fun _ => False) W.heap La ls ∧ RdT (fun _ => False) W.heap Ta ts ∧ (Lit.int .i64 bud).wf = true := by
    obtain ⟨fuel, hf⟩ := h0
    obtain ⟨La, lc, Ta, tc, ls, ts, d, bud, ht, rest⟩ := openCase hf
    exact ⟨La, lc, Ta, tc, ls, ts, d, bud, by rw [← ht]; simp [Value.cells], rest⟩
  subst ht
  clear hA0 hval0 hsz0
  refine (law_calls (Try.call7 _) (fun Q hk => ContentBudgets_c d bud a1 a2 b1 b2 rc rt hk)).mono fun e W' ⟨he, bel⟩ => ?_
  subst he
  exact ⟨_, rfl, _, _, _, [], _, [], hW', trodAll_mk1 (shut_bool Try.underlying4 _), (trodAll_cons_mk (Below.trod laidOut (by kernel_rfl) (of_decide_eq_true (by kernel_rfl)) k0 bel lt0) (trodAll_cons_mk (shut_int Try.underlying44 w1) (trodAll_cons_mk (shut_int Try.underlying44 w2) trodAll_mk0))), rfl, bel.frame _, fun h => by cases h⟩
theorem over : Rows.contentBudgetsRow.holds Try.pinned (OpenSpec.ofChange Rows.contentBudgetsSpec) :=
  OpenClaim.holds_of_wide 7 Try.f7 rfl rfl rfl rfl rfl rfl rfl ⟨rfl, rfl, rfl, rfl, rfl⟩ rfl rfl rfl rfl rfl (by kernel_rfl) Try.func7 (by kernel_rfl)
    (of_decide_eq_true (by kernel_rfl)) (by unfold Func.isWrapper; first | (rw [if_pos (by decide +kernel)]; kernel_rfl) | (rw [if_neg (by decide +kernel)]; exact ⟨rfl, rfl⟩))
    (fun os started H enc _ => lifted os started H enc)
theorem proved : Rows.ContentBudgetsSaid := over
end Go.Proofs.Ytkmommchanjobaa.contentBudgets
namespace Go.Proofs.Ytkmommchanjobaa
/-- The row, under a short name, for the claim. -/
theorem contentBudgets_holds : Rows.ContentBudgetsSaid := contentBudgets.proved
#print axioms contentBudgets_holds
end Go.Proofs.Ytkmommchanjobaa
