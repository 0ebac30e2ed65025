/-
  ThresholdSuppresses: whatever the entries, the rule and the flow, the law returns true and leaves its arguments as they were.
-/
import Derived.Test.YtfcnplakgmdfiaaRows
import Derived.Test.YtfcnplakgmdfiaaThrY
namespace Go.Proofs.Ytfcnplakgmdfiaa.thresholdSuppresses
set_option linter.unusedSimpArgs false
set_option linter.unusedVariables false
set_option maxRecDepth 20000
open Go Go.ChangeShapes Go.WideShapes Go.ChangeAt Go.RowKit
open Go.ChangeMaps (open_string shut_string)
theorem own : ownKnob Try.prog.godebug = none := by kernel_rfl
theorem laidOut : laidOutB Try.prog = true := by kernel_rfl
set_option maxRecDepth 100000 in
theorem lifted (os : Os) (started : os.Started) (H : Type) (enc : TypeId × Value → H) :
    ReturnsInHanded {} Try.checked os 6 .any (Rows.thresholdSuppressesSpec.pre6 enc Try.prog Try.f6 Rows.thresholdSuppressesRow.domain false) (Rows.thresholdSuppressesSpec.post enc Try.prog Try.f6 false true false false) := by
  refine returnsInHanded_of_change_sized (C := Try.checked) own started (by kernel_rfl) Try.func6
    (ChangeSpec.witness6 (enc := enc) (C := Try.checked) false ⟨#[], #[.slice none 0 0, .int .i64 0, .agg #[.int .i64 0, .bool false, .int .u64 0, .int .u64 0, .bool false, .int .u64 0, .int .u64 0, .int .i64 0, .int .i64 0]], []⟩ 8 (by kernel_rfl) (by kernel_rfl) (by kernel_rfl) (by kernel_rfl)) ?_
  intro W base args ds gs before hval0 hW hcnd hsz0 _
  have hval : ∀ (j : Nat) t v, Try.f6.params[j]? = some t → args[j]? = some v → Value.okWide Try.prog W .any base t v := hval0
  have hW' := hW
  obtain ⟨p, q, hA0, hV, rfl, hfz, hnd⟩ := hW
  have hA : DataW.TrodAll enc Try.prog W 0 (fun _ => true) true Try.f6.params.toList args.toList ds p := hA0
  rw [Try.params6] at hA hval
  obtain ⟨v0, vs0, d0, ds0, p0, q0, hargs, rfl, rfl, h0, r0⟩ := trodAll_cons hA
  obtain ⟨v1, vs1, d1, ds1, p1, q1, rfl, rfl, rfl, h1, r1⟩ := trodAll_cons r0
  obtain ⟨v2, vs2, d2, ds2, p2, q2, rfl, rfl, rfl, h2, r2⟩ := trodAll_cons r1
  obtain ⟨rfl, rfl, rfl⟩ := trodAll_nil r2
  obtain rfl : args = #[v0, v1, v2] := by cases args; simp_all
  obtain ⟨rfl, rfl⟩ := trodVars_none hV
  have k0 := h0
  have lt0 : ∀ x ∈ p0, x.block < W.heap.size := by obtain ⟨m, hm⟩ := k0; exact DataW.trod_lt m _ _ _ hm
  obtain ⟨a0, len0, cap0, rfl⟩ := okWide_slice Try.underlying57 (hval 0 57 v0 rfl rfl)
  obtain ⟨x0, e0, o0⟩ : ∃ y : Sl S_api_Suppress, Value.slice a0 len0 cap0 = y.v ∧ (SlOk 6 S_api_Suppress.vals S_api_Suppress.ok) W.heap y := by
    obtain ⟨fuel, hf⟩ := h0
    obtain ⟨y, e, o⟩ := ((op_sl Try.underlying57 (by kernel_rfl) (fun _ => rfl) S_api_Suppress.op) : Opens enc Try.prog W 57 (fun s : Sl S_api_Suppress => [s.v]) (SlOk 6 S_api_Suppress.vals S_api_Suppress.ok)) _ _ _ hf
    exact ⟨y, List.head_eq_of_cons_eq e, o⟩
  obtain ⟨rfl, rfl, rfl⟩ : a0 = x0.p ∧ len0 = x0.xs.length ∧ cap0 = x0.cap := by simpa [Sl.v] using e0
  have k1 := h1
  have lt1 : ∀ x ∈ p1, x.block < W.heap.size := by obtain ⟨m, hm⟩ := k1; exact DataW.trod_lt m _ _ _ hm
  obtain ⟨x1, rfl, rfl, rfl, w1⟩ := open_int Try.underlying3 (hval 1 3 v1 rfl rfl) h1
  have o1 : kOk .i64 W.heap x1 := w1
  have k2 := h2
  have lt2 : ∀ x ∈ p2, x.block < W.heap.size := by obtain ⟨m, hm⟩ := k2; exact DataW.trod_lt m _ _ _ hm
  obtain ⟨c2, rfl, _⟩ := okWide_struct Try.underlying36 (hval 2 36 v2 rfl rfl)
  obtain ⟨x2, e2, o2⟩ : ∃ y : S_api_Flow, c2 = (S_api_Flow.vals y).toArray ∧ S_api_Flow.ok W.heap y := by
    obtain ⟨fuel, hf⟩ := h2
    obtain ⟨y, e, o⟩ := (S_api_Flow.op : Opens enc Try.prog W 36 S_api_Flow.vals S_api_Flow.ok) _ _ _ hf
    exact ⟨y, by rw [← e]; simp [Value.cells], o⟩
  subst e2
  clear hA0 hval0 hsz0
  refine (law_calls (Try.call6 _) (fun Q hk => ThresholdSuppresses_c x0 x1 x2 o0 o1 o2 hk)).mono fun e W' ⟨he, bel⟩ => ?_
  subst he
  exact ⟨_, rfl, _, _, _, [], _, [], hW', trodAll_mk1 (shut_bool Try.underlying4 _), (trodAll_cons_mk (Below.trod laidOut (by kernel_rfl) (of_decide_eq_true (by kernel_rfl)) k0 bel lt0) (trodAll_cons_mk (Below.trod laidOut (by kernel_rfl) (of_decide_eq_true (by kernel_rfl)) k1 bel lt1) (trodAll_cons_mk (Below.trod laidOut (by kernel_rfl) (of_decide_eq_true (by kernel_rfl)) k2 bel lt2) trodAll_mk0))), rfl, bel.frame _, fun h => by cases h⟩
theorem over : Rows.thresholdSuppressesRow.holds Try.pinned (OpenSpec.ofChange Rows.thresholdSuppressesSpec) :=
  OpenClaim.holds_of_wide 6 Try.f6 rfl rfl rfl rfl rfl rfl rfl ⟨rfl, rfl, rfl, rfl, rfl⟩ rfl rfl rfl rfl rfl (by kernel_rfl) Try.func6 (by kernel_rfl)
    (of_decide_eq_true (by kernel_rfl)) (by unfold Func.isWrapper; first | (rw [if_pos (by decide +kernel)]; kernel_rfl) | (rw [if_neg (by decide +kernel)]; exact ⟨rfl, rfl⟩))
    (fun os started H enc _ => lifted os started H enc)
theorem proved : Rows.ThresholdSuppressesSaid := over
end Go.Proofs.Ytfcnplakgmdfiaa.thresholdSuppresses
namespace Go.Proofs.Ytfcnplakgmdfiaa
/-- The row, under a short name, for the claim. -/
theorem thresholdSuppresses_holds : Rows.ThresholdSuppressesSaid := thresholdSuppresses.proved
#print axioms thresholdSuppresses_holds
end Go.Proofs.Ytfcnplakgmdfiaa
