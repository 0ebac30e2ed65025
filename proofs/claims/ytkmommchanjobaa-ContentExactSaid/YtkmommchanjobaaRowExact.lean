/-
  ContentExact: whatever the contents, the tests, the data and the budget, the law returns true and leaves its arguments as they were.
-/
import Derived.Test.YtkmommchanjobaaRows
import Derived.Test.YtkmommchanjobaaContM
namespace Go.Proofs.Ytkmommchanjobaa.contentExact
set_option linter.unusedSimpArgs false
set_option linter.unusedVariables false
open Go Go.ChangeShapes Go.WideShapes Go.ChangeAt Go.RowKit
open Go.ChangeMaps (open_string shut_string)
set_option maxRecDepth 100000 in
theorem lifted (os : Os) (started : os.Started) (H : Type) (enc : TypeId × Value → H) :
    ReturnsInHanded {} Try.checked os 5 .any (Rows.contentExactSpec.pre6 enc Try.prog Try.f5 Rows.contentExactRow.domain false) (Rows.contentExactSpec.post enc Try.prog Try.f5 false true false false) := by
  refine returnsInHanded_of_change_sized (C := Try.checked) own started (by kernel_rfl) Try.func5
    (ChangeSpec.witness6 (enc := enc) (C := Try.checked) false ⟨#[], #[.agg #[.slice none 0 0, .slice none 0 0, .string ByteArray.empty, .int .i64 0]], []⟩ 8 (by kernel_rfl) (by kernel_rfl) (by kernel_rfl) (by kernel_rfl)) ?_
  intro W base args ds gs before hval0 hW hcnd hsz0 _
  have hval : ∀ (j : Nat) t v, Try.f5.params[j]? = some t → args[j]? = some v → Value.okWide Try.prog W .any base t v := hval0
  have hW' := hW
  obtain ⟨p, q, hA0, hV, rfl, hfz, hnd⟩ := hW
  have hA : DataW.TrodAll enc Try.prog W 0 (fun _ => true) true Try.f5.params.toList args.toList ds p := hA0
  rw [Try.params5] at hA hval
  obtain ⟨v0, vs0, d0, ds0, p0, q0, hargs, rfl, rfl, h0, r0⟩ := trodAll_cons hA
  obtain ⟨rfl, rfl, rfl⟩ := trodAll_nil r0
  obtain rfl : args = #[v0] := by cases args; simp_all
  obtain ⟨rfl, rfl⟩ := trodVars_none hV
  obtain ⟨c0, rfl, _⟩ := okWide_struct Try.underlying38 (hval 0 38 v0 rfl rfl)
  have k0 := h0
  have lt0 : ∀ x ∈ p0, x.block < W.heap.size := by obtain ⟨m, hm⟩ := k0; exact DataW.trod_lt m _ _ _ hm
  obtain ⟨La, lc, Ta, tc, ls, ts, d, bud, ht, rc, rt, _⟩ : ∃ (La : Option Addr) (lc : Nat) (Ta : Option Addr) (tc : Nat) (ls : List Cn) (ts : List Ts) (d : List UInt8) (bud : Int), c0 = (caseV La ls.length lc Ta ts.length tc d bud).toArray ∧ RdC (fun _ => False) W.heap La ls ∧ RdT (fun _ => False) W.heap Ta ts ∧ (Lit.int .i64 bud).wf = true := by
    obtain ⟨fuel, hf⟩ := h0
    obtain ⟨La, lc, Ta, tc, ls, ts, d, bud, ht, rest⟩ := openCase hf
    exact ⟨La, lc, Ta, tc, ls, ts, d, bud, by rw [← ht]; simp [Value.cells], rest⟩
  subst ht
  clear hA0 hval0 hsz0
  refine (law_calls (Try.call5 _) (fun Q hk => ContentExact_c d bud rc rt hk)).mono fun e W' ⟨he, bel⟩ => ?_
  subst he
  exact ⟨_, rfl, _, _, _, [], _, [], hW', trodAll_mk1 (shut_bool Try.underlying4 _), (trodAll_cons_mk (Below.trod laidOut (by kernel_rfl) (of_decide_eq_true (by kernel_rfl)) k0 bel lt0) trodAll_mk0), rfl, bel.frame _, fun h => by cases h⟩
theorem over : Rows.contentExactRow.holds Try.pinned (OpenSpec.ofChange Rows.contentExactSpec) :=
  OpenClaim.holds_of_wide 5 Try.f5 rfl rfl rfl rfl rfl rfl rfl ⟨rfl, rfl, rfl, rfl, rfl⟩ rfl rfl rfl rfl rfl (by kernel_rfl) Try.func5 (by kernel_rfl)
    (of_decide_eq_true (by kernel_rfl)) (by unfold Func.isWrapper; first | (rw [if_pos (by decide +kernel)]; kernel_rfl) | (rw [if_neg (by decide +kernel)]; exact ⟨rfl, rfl⟩))
    (fun os started H enc _ => lifted os started H enc)
theorem proved : Rows.ContentExactSaid := over
end Go.Proofs.Ytkmommchanjobaa.contentExact
namespace Go.Proofs.Ytkmommchanjobaa
/-- The row, under a short name, for the claim. -/
theorem contentExact_holds : Rows.ContentExactSaid := contentExact.proved
#print axioms contentExact_holds
end Go.Proofs.Ytkmommchanjobaa
