/-
  AutomatonScans: whatever the patterns and the pieces, the law returns true and leaves its arguments as they were.
-/
import Derived.Test.YthnheldoklgceaaRows
import Derived.Test.YthnheldoklgceaaAutY
namespace Go.Proofs.Ythnheldoklgceaa.automatonScans
set_option linter.unusedSimpArgs false
set_option linter.unusedVariables false
set_option maxRecDepth 20000
open Go Go.ChangeShapes Go.WideShapes Go.ChangeAt Go.RowKit
open Go.ChangeMaps (open_string shut_string)
theorem own : ownKnob Try.prog.godebug = none := by kernel_rfl
theorem laidOut : laidOutB Try.prog = true := by kernel_rfl
set_option maxRecDepth 100000 in
theorem lifted (os : Os) (started : os.Started) (H : Type) (enc : TypeId × Value → H) :
    ReturnsInHanded {} Try.checked os 4 .any (Rows.automatonScansSpec.pre6 enc Try.prog Try.f4 Rows.automatonScansRow.domain false) (Rows.automatonScansSpec.post enc Try.prog Try.f4 false true false false) := by
  refine returnsInHanded_of_change_sized (C := Try.checked) own started (by kernel_rfl) Try.func4
    (ChangeSpec.witness6 (enc := enc) (C := Try.checked) false ⟨#[], #[.slice none 0 0, .slice none 0 0], []⟩ 8 (by kernel_rfl) (by kernel_rfl) (by kernel_rfl) (by kernel_rfl)) ?_
  intro W base args ds gs before hval0 hW hcnd hsz0 _
  have hval : ∀ (j : Nat) t v, Try.f4.params[j]? = some t → args[j]? = some v → Value.okWide Try.prog W .any base t v := hval0
  have hW' := hW
  obtain ⟨p, q, hA0, hV, rfl, hfz, hnd⟩ := hW
  have hA : DataW.TrodAll enc Try.prog W 0 (fun _ => true) true Try.f4.params.toList args.toList ds p := hA0
  rw [Try.params4] at hA hval
  obtain ⟨v0, vs0, d0, ds0, p0, q0, hargs, rfl, rfl, h0, r0⟩ := trodAll_cons hA
  obtain ⟨v1, vs1, d1, ds1, p1, q1, rfl, rfl, rfl, h1, r1⟩ := trodAll_cons r0
  obtain ⟨rfl, rfl, rfl⟩ := trodAll_nil r1
  obtain rfl : args = #[v0, v1] := by cases args; simp_all
  obtain ⟨rfl, rfl⟩ := trodVars_none hV
  have k0 := h0
  have lt0 : ∀ x ∈ p0, x.block < W.heap.size := by obtain ⟨m, hm⟩ := k0; exact DataW.trod_lt m _ _ _ hm
  obtain ⟨a0, len0, cap0, rfl⟩ := okWide_slice Try.underlying22 (hval 0 22 v0 rfl rfl)
  obtain ⟨x0, e0, o0⟩ : ∃ y : Sl S_api_Pattern, Value.slice a0 len0 cap0 = y.v ∧ (SlOk 2 S_api_Pattern.vals S_api_Pattern.ok) W.heap y := by
    obtain ⟨fuel, hf⟩ := h0
    obtain ⟨y, e, o⟩ := ((op_sl Try.underlying22 (by kernel_rfl) (fun _ => rfl) S_api_Pattern.op) : Opens enc Try.prog W 22 (fun s : Sl S_api_Pattern => [s.v]) (SlOk 2 S_api_Pattern.vals S_api_Pattern.ok)) _ _ _ hf
    exact ⟨y, List.head_eq_of_cons_eq e, o⟩
  obtain ⟨rfl, rfl, rfl⟩ : a0 = x0.p ∧ len0 = x0.xs.length ∧ cap0 = x0.cap := by simpa [Sl.v] using e0
  have k1 := h1
  have lt1 : ∀ x ∈ p1, x.block < W.heap.size := by obtain ⟨m, hm⟩ := k1; exact DataW.trod_lt m _ _ _ hm
  obtain ⟨a1, len1, cap1, rfl⟩ := okWide_slice Try.underlying33 (hval 1 33 v1 rfl rfl)
  obtain ⟨x1, e1, o1⟩ : ∃ y : Sl (List UInt8), Value.slice a1 len1 cap1 = y.v ∧ (SlOk 1 (fun l : List UInt8 => [Value.string (bs l)]) sOk) W.heap y := by
    obtain ⟨fuel, hf⟩ := h1
    obtain ⟨y, e, o⟩ := ((op_sl Try.underlying33 (by kernel_rfl) (fun _ => rfl) (op_str Try.underlying9)) : Opens enc Try.prog W 33 (fun s : Sl (List UInt8) => [s.v]) (SlOk 1 (fun l : List UInt8 => [Value.string (bs l)]) sOk)) _ _ _ hf
    exact ⟨y, List.head_eq_of_cons_eq e, o⟩
  obtain ⟨rfl, rfl, rfl⟩ : a1 = x1.p ∧ len1 = x1.xs.length ∧ cap1 = x1.cap := by simpa [Sl.v] using e1
  clear hA0 hval0 hsz0
  refine (law_calls (Try.call4 _) (fun Q hk => AutomatonScans_c x0 x1 o0 o1 hk)).mono fun e W' ⟨he, bel⟩ => ?_
  subst he
  exact ⟨_, rfl, _, _, _, [], _, [], hW', trodAll_mk1 (shut_bool Try.underlying4 _), (trodAll_cons_mk (Below.trod laidOut (by kernel_rfl) (of_decide_eq_true (by kernel_rfl)) k0 bel lt0) (trodAll_cons_mk (Below.trod laidOut (by kernel_rfl) (of_decide_eq_true (by kernel_rfl)) k1 bel lt1) trodAll_mk0)), rfl, bel.frame _, fun h => by cases h⟩
theorem over : Rows.automatonScansRow.holds Try.pinned (OpenSpec.ofChange Rows.automatonScansSpec) :=
  OpenClaim.holds_of_wide 4 Try.f4 rfl rfl rfl rfl rfl rfl rfl ⟨rfl, rfl, rfl, rfl, rfl⟩ rfl rfl rfl rfl rfl (by kernel_rfl) Try.func4 (by kernel_rfl)
    (of_decide_eq_true (by kernel_rfl)) (by unfold Func.isWrapper; first | (rw [if_pos (by decide +kernel)]; kernel_rfl) | (rw [if_neg (by decide +kernel)]; exact ⟨rfl, rfl⟩))
    (fun os started H enc _ => lifted os started H enc)
theorem proved : Rows.AutomatonScansSaid := over
end Go.Proofs.Ythnheldoklgceaa.automatonScans
namespace Go.Proofs.Ythnheldoklgceaa
/-- The row, under a short name, for the claim. -/
theorem automatonScans_holds : Rows.AutomatonScansSaid := automatonScans.proved
#print axioms automatonScans_holds
end Go.Proofs.Ythnheldoklgceaa
