/-
  AutomatonExact: whatever the patterns and the text, the law returns true and leaves its arguments as they were.
-/
import Derived.Test.YthnheldoklgceaaDoorRows
import Derived.Test.YthnheldoklgceaaDoorAutDZ
import Derived.Test.YthnheldoklgceaaDoorTie
import Derived.Test.YthnheldoklgceaaDoorCards
import Derived.Lay
namespace Go.Proofs.YthnheldoklgceaaDoor.automatonExact
set_option linter.unusedSimpArgs false
set_option linter.unusedVariables false
set_option maxRecDepth 20000
open Go Go.ChangeShapes Go.WideShapes Go.ChangeAt Go.RowKit
open Go.ChangeMaps (open_string shut_string)
theorem own : ownKnob Tryd.prog.godebug = none := by kernel_rfl
theorem laidOut : laidOutB Tryd.prog = true := by kernel_rfl
set_option maxRecDepth 100000 in
theorem lifted (os : Os) (started : os.Started) (H : Type) (enc : TypeId × Value → H) :
    ReturnsInHanded {} Tryd.checked os 4 .any (fun w args => (Rows.automatonExactSpec.pre enc Tryd.prog Tryd.f4 Rows.automatonExactRow.domain false w args ∧ laidMet Tryd.prog Rows.automatonExactRow.laid w) ∧ sizedMet enc Tryd.prog Tryd.f4 (OpenSpec.ofChange Rows.automatonExactSpec) false w args) (Rows.automatonExactSpec.post enc Tryd.prog Tryd.f4 false true false false) := by
  refine returnsInHanded_of_change_and (C := Tryd.checked) (X := fun w _ => laidMet Tryd.prog Rows.automatonExactRow.laid w) (fun _ _ _ hh h => h.of_heap hh) own started (by kernel_rfl) Tryd.func4
    (ChangeSpec.witness_shaped (enc := enc) (C := Tryd.checked) (os := os) (X := fun w _ => laidMet Tryd.prog Rows.automatonExactRow.laid w) false (World.laidAll Tryd.prog os Rows.automatonExactRow.laid) #[.slice none 0 0, .string ByteArray.empty] 8 (World.laidAll_os ..) (World.shaped_of_ZipB (by kernel_rfl) (by kernel_rfl)) (by kernel_rfl) (by kernel_rfl) (by kernel_rfl)
      (laidMet_laidAll _ (by kernel_rfl) (by kernel_rfl))) ?_
  intro W base args ds gs before hval0 hW hcnd hsz0 hL _
  have hval : ∀ (j : Nat) t v, Tryd.f4.params[j]? = some t → args[j]? = some v → Value.okWide Tryd.prog W .any base t v := hval0
  have hW' := hW
  obtain ⟨p, q, hA0, hV, rfl, hfz, hnd⟩ := hW
  have hA : DataW.TrodAll enc Tryd.prog W 0 (fun _ => true) true Tryd.f4.params.toList args.toList ds p := hA0
  rw [Tryd.params4] at hA hval
  obtain ⟨v0, vs0, d0, ds0, p0, q0, hargs, rfl, rfl, h0, r0⟩ := trodAll_cons hA
  obtain ⟨v1, vs1, d1, ds1, p1, q1, rfl, rfl, rfl, h1, r1⟩ := trodAll_cons r0
  obtain ⟨rfl, rfl, rfl⟩ := trodAll_nil r1
  obtain rfl : args = #[v0, v1] := by cases args; simp_all
  obtain ⟨rfl, rfl⟩ := trodVars_none hV
  have k0 := h0
  have lt0 : ∀ x ∈ p0, x.block < W.heap.size := by obtain ⟨m, hm⟩ := k0; exact DataW.trod_lt m _ _ _ hm
  obtain ⟨a0, len0, cap0, rfl⟩ := okWide_slice Tryd.underlying22 (hval 0 22 v0 rfl rfl)
  obtain ⟨x0, e0, o0⟩ : ∃ y : Sl S_api_Pattern, Value.slice a0 len0 cap0 = y.v ∧ (SlOk 2 S_api_Pattern.vals S_api_Pattern.ok) W.heap y := by
    obtain ⟨fuel, hf⟩ := h0
    obtain ⟨y, e, o⟩ := ((op_sl Tryd.underlying22 (by kernel_rfl) (fun _ => rfl) S_api_Pattern.op) : Opens enc Tryd.prog W 22 (fun s : Sl S_api_Pattern => [s.v]) (SlOk 2 S_api_Pattern.vals S_api_Pattern.ok)) _ _ _ hf
    exact ⟨y, List.head_eq_of_cons_eq e, o⟩
  obtain ⟨rfl, rfl, rfl⟩ : a0 = x0.p ∧ len0 = x0.xs.length ∧ cap0 = x0.cap := by simpa [Sl.v] using e0
  have k1 := h1
  have lt1 : ∀ x ∈ p1, x.block < W.heap.size := by obtain ⟨m, hm⟩ := k1; exact DataW.trod_lt m _ _ _ hm
  obtain ⟨a1, rfl, rfl, rfl, y1⟩ := open_string Tryd.underlying9 (hval 1 9 v1 rfl rfl) h1
  obtain ⟨x1, rfl⟩ := bs_surj a1
  have o1 : sOk W.heap x1 := by have := y1; simpa [sOk, bs_size, maxLen] using this
  clear hA0 hval0 hsz0
  refine (law_calls (Tryd.call4 _) (fun Q hk => AutomatonExact_c x0 x1 o0 o1 hk)).mono fun e W' ⟨he, bel⟩ => ?_
  subst he
  exact ⟨_, rfl, _, _, _, [], _, [], hW', trodAll_mk1 (shut_bool Tryd.underlying4 _), (trodAll_cons_mk (Below.trod laidOut (by kernel_rfl) (of_decide_eq_true (by kernel_rfl)) k0 bel lt0) (trodAll_cons_mk (Below.trod laidOut (by kernel_rfl) (of_decide_eq_true (by kernel_rfl)) k1 bel lt1) trodAll_mk0)), rfl, bel.frame _, fun h => by cases h⟩
theorem over : Rows.automatonExactRow.holds Tryd.pinned (OpenSpec.ofChange Rows.automatonExactSpec) :=
  OpenClaim.holds_of_wide 4 Tryd.f4 rfl rfl rfl rfl rfl rfl rfl ⟨rfl, rfl, rfl, rfl, rfl⟩ rfl rfl rfl rfl rfl (by kernel_rfl) Tryd.func4 (by kernel_rfl)
    (of_decide_eq_true (by kernel_rfl)) (by unfold Func.isWrapper; first | (rw [if_pos (by decide +kernel)]; kernel_rfl) | (rw [if_neg (by decide +kernel)]; exact ⟨rfl, rfl⟩))
    (fun os started H enc _ => lifted os started H enc)
theorem card_holds : Rows.AutomatonExactCardSaid :=
  Claim7.holds_tied_plain_at .later [] [.data, .pinned] true (true, "84bdb55e2a18948abf683597fb1ca7c891639a8870d897b9175046e44b8f5a16") false
    over (fun _ h => by cases h) (by kernel_rfl) (fun _ h => by cases h) automatonExact_row_tie rfl ⟨rfl, rfl⟩ (by kernel_rfl) rfl
    (fun f fn hf hfn => by
      obtain rfl : f = 4 := Option.some.inj ((show Tryd.prog.funcNamed "intrusion/intrusionlaw45.AutomatonExact" = some 4 by kernel_rfl).symm.trans hf) |>.symm
      obtain rfl : fn = Tryd.f4 := (Option.some.inj (Tryd.func4.symm.trans hfn)).symm
      exact ⟨by kernel_rfl, fun j t ht => by
        rw [Tryd.params4] at ht
        match j, ht with
        | 0, ht => obtain rfl : t = 22 := (Option.some.inj ht).symm; exact (show Tryd.prog.wantsStandIn 22 = false by kernel_rfl)
        | 1, ht => obtain rfl : t = 9 := (Option.some.inj ht).symm; exact (show Tryd.prog.wantsStandIn 9 = false by kernel_rfl)
        | _ + 2, ht => cases ht⟩)
    (by kernel_rfl)
end Go.Proofs.YthnheldoklgceaaDoor.automatonExact
namespace Go.Proofs.YthnheldoklgceaaDoor
/-- The card, under a short name, for the claim. -/
theorem automatonExact_holds : Rows.AutomatonExactCardSaid := automatonExact.card_holds
#print axioms automatonExact_holds
end Go.Proofs.YthnheldoklgceaaDoor
