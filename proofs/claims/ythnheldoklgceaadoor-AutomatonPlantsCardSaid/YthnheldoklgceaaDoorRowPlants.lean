/-
  AutomatonPlants: whatever the patterns, the place and the texts, the law returns true and leaves its arguments as they were.
-/
import Derived.Test.YthnheldoklgceaaDoorRows
import Derived.Test.YthnheldoklgceaaDoorAutDZ
import Derived.Test.YthnheldoklgceaaDoorTie
import Derived.Test.YthnheldoklgceaaDoorCards
import Derived.Lay
namespace Go.Proofs.YthnheldoklgceaaDoor.automatonPlants
set_option linter.unusedSimpArgs false
set_option linter.unusedVariables false
set_option maxRecDepth 20000
open Go Go.ChangeShapes Go.WideShapes Go.ChangeAt Go.RowKit
open Go.ChangeMaps (open_string shut_string)
theorem own : ownKnob Tryd.prog.godebug = none := by kernel_rfl
theorem laidOut : laidOutB Tryd.prog = true := by kernel_rfl
set_option maxRecDepth 100000 in
theorem lifted (os : Os) (started : os.Started) (H : Type) (enc : TypeId × Value → H) :
    ReturnsInHanded {} Tryd.checked os 3 .any (fun w args => (Rows.automatonPlantsSpec.pre enc Tryd.prog Tryd.f3 Rows.automatonPlantsRow.domain false w args ∧ laidMet Tryd.prog Rows.automatonPlantsRow.laid w) ∧ sizedMet enc Tryd.prog Tryd.f3 (OpenSpec.ofChange Rows.automatonPlantsSpec) false w args) (Rows.automatonPlantsSpec.post enc Tryd.prog Tryd.f3 false true false false) := by
  refine returnsInHanded_of_change_and (C := Tryd.checked) (X := fun w _ => laidMet Tryd.prog Rows.automatonPlantsRow.laid w) (fun _ _ _ hh h => h.of_heap hh) own started (by kernel_rfl) Tryd.func3
    (ChangeSpec.witness_shaped (enc := enc) (C := Tryd.checked) (os := os) (X := fun w _ => laidMet Tryd.prog Rows.automatonPlantsRow.laid w) false (World.laidAll Tryd.prog os Rows.automatonPlantsRow.laid) #[.slice none 0 0, .int .u8 0, .string ByteArray.empty, .string ByteArray.empty] 8 (World.laidAll_os ..) (World.shaped_of_ZipB (by kernel_rfl) (by kernel_rfl)) (by kernel_rfl) (by kernel_rfl) (by kernel_rfl)
      (laidMet_laidAll _ (by kernel_rfl) (by kernel_rfl))) ?_
  intro W base args ds gs before hval0 hW hcnd hsz0 hL _
  have hval : ∀ (j : Nat) t v, Tryd.f3.params[j]? = some t → args[j]? = some v → Value.okWide Tryd.prog W .any base t v := hval0
  have hW' := hW
  obtain ⟨p, q, hA0, hV, rfl, hfz, hnd⟩ := hW
  have hA : DataW.TrodAll enc Tryd.prog W 0 (fun _ => true) true Tryd.f3.params.toList args.toList ds p := hA0
  rw [Tryd.params3] at hA hval
  obtain ⟨v0, vs0, d0, ds0, p0, q0, hargs, rfl, rfl, h0, r0⟩ := trodAll_cons hA
  obtain ⟨v1, vs1, d1, ds1, p1, q1, rfl, rfl, rfl, h1, r1⟩ := trodAll_cons r0
  obtain ⟨v2, vs2, d2, ds2, p2, q2, rfl, rfl, rfl, h2, r2⟩ := trodAll_cons r1
  obtain ⟨v3, vs3, d3, ds3, p3, q3, rfl, rfl, rfl, h3, r3⟩ := trodAll_cons r2
  obtain ⟨rfl, rfl, rfl⟩ := trodAll_nil r3
  obtain rfl : args = #[v0, v1, v2, v3] := by cases args; simp_all
  obtain ⟨rfl, rfl⟩ := trodVars_none hV
  have k0 := h0
  have lt0 : ∀ x ∈ p0, x.block < W.heap.size := by obtain ⟨m, hm⟩ := k0; exact DataW.trod_lt m _ _ _ hm
  obtain ⟨a0, len0, cap0, rfl⟩ := okWide_slice Tryd.underlying22 (hval 0 22 v0 rfl rfl)
  obtain ⟨x0, e0, o0⟩ : ∃ y : Sl S_api_Pattern, Value.slice a0 len0 cap0 = y.v ∧ (SlOk 2 S_api_Pattern.vals S_api_Pattern.ok) W.heap y := by
    obtain ⟨fuel, hf⟩ := h0
    obtain ⟨y, e, o⟩ := ((op_sl Tryd.underlying22 (by kernel_rfl) (fun _ => rfl) S_api_Pattern.op) : Opens enc Tryd.prog W 22 (fun s : Sl S_api_Pattern => [s.v]) (SlOk 2 S_api_Pattern.vals S_api_Pattern.ok)) _ _ _ hf
    exact ⟨y, List.head_eq_of_cons_eq e, o⟩
  obtain ⟨rfl, rfl, rfl⟩ : a0 = x0.p ∧ len0 = x0.xs.length ∧ cap0 = x0.cap := by simpa [Sl.v] using e0
  have k1 := h1
  have lt1 : ∀ x ∈ p1, x.block < W.heap.size := by obtain ⟨m, hm⟩ := k1; exact DataW.trod_lt m _ _ _ hm
  obtain ⟨x1, rfl, rfl, rfl, w1⟩ := open_int Tryd.underlying5 (hval 1 5 v1 rfl rfl) h1
  have o1 : kOk .u8 W.heap x1 := w1
  have k2 := h2
  have lt2 : ∀ x ∈ p2, x.block < W.heap.size := by obtain ⟨m, hm⟩ := k2; exact DataW.trod_lt m _ _ _ hm
  obtain ⟨a2, rfl, rfl, rfl, y2⟩ := open_string Tryd.underlying9 (hval 2 9 v2 rfl rfl) h2
  obtain ⟨x2, rfl⟩ := bs_surj a2
  have o2 : sOk W.heap x2 := by have := y2; simpa [sOk, bs_size, maxLen] using this
  have k3 := h3
  have lt3 : ∀ x ∈ p3, x.block < W.heap.size := by obtain ⟨m, hm⟩ := k3; exact DataW.trod_lt m _ _ _ hm
  obtain ⟨a3, rfl, rfl, rfl, y3⟩ := open_string Tryd.underlying9 (hval 3 9 v3 rfl rfl) h3
  obtain ⟨x3, rfl⟩ := bs_surj a3
  have o3 : sOk W.heap x3 := by have := y3; simpa [sOk, bs_size, maxLen] using this
  clear hA0 hval0 hsz0
  refine (law_calls (Tryd.call3 _) (fun Q hk => AutomatonPlants_c x0 x1 x2 x3 o0 o1 o2 o3 hk)).mono fun e W' ⟨he, bel⟩ => ?_
  subst he
  exact ⟨_, rfl, _, _, _, [], _, [], hW', trodAll_mk1 (shut_bool Tryd.underlying4 _), (trodAll_cons_mk (Below.trod laidOut (by kernel_rfl) (of_decide_eq_true (by kernel_rfl)) k0 bel lt0) (trodAll_cons_mk (Below.trod laidOut (by kernel_rfl) (of_decide_eq_true (by kernel_rfl)) k1 bel lt1) (trodAll_cons_mk (Below.trod laidOut (by kernel_rfl) (of_decide_eq_true (by kernel_rfl)) k2 bel lt2) (trodAll_cons_mk (Below.trod laidOut (by kernel_rfl) (of_decide_eq_true (by kernel_rfl)) k3 bel lt3) trodAll_mk0)))), rfl, bel.frame _, fun h => by cases h⟩
theorem over : Rows.automatonPlantsRow.holds Tryd.pinned (OpenSpec.ofChange Rows.automatonPlantsSpec) :=
  OpenClaim.holds_of_wide 3 Tryd.f3 rfl rfl rfl rfl rfl rfl rfl ⟨rfl, rfl, rfl, rfl, rfl⟩ rfl rfl rfl rfl rfl (by kernel_rfl) Tryd.func3 (by kernel_rfl)
    (of_decide_eq_true (by kernel_rfl)) (by unfold Func.isWrapper; first | (rw [if_pos (by decide +kernel)]; kernel_rfl) | (rw [if_neg (by decide +kernel)]; exact ⟨rfl, rfl⟩))
    (fun os started H enc _ => lifted os started H enc)
theorem card_holds : Rows.AutomatonPlantsCardSaid :=
  Claim7.holds_tied_plain_at .later [] [.data, .pinned] true (true, "84bdb55e2a18948abf683597fb1ca7c891639a8870d897b9175046e44b8f5a16") false
    over (fun _ h => by cases h) (by kernel_rfl) (fun _ h => by cases h) automatonPlants_row_tie rfl ⟨rfl, rfl⟩ (by kernel_rfl) rfl
    (fun f fn hf hfn => by
      obtain rfl : f = 3 := Option.some.inj ((show Tryd.prog.funcNamed "intrusion/intrusionlaw45.AutomatonPlants" = some 3 by kernel_rfl).symm.trans hf) |>.symm
      obtain rfl : fn = Tryd.f3 := (Option.some.inj (Tryd.func3.symm.trans hfn)).symm
      exact ⟨by kernel_rfl, fun j t ht => by
        rw [Tryd.params3] at ht
        match j, ht with
        | 0, ht => obtain rfl : t = 22 := (Option.some.inj ht).symm; exact (show Tryd.prog.wantsStandIn 22 = false by kernel_rfl)
        | 1, ht => obtain rfl : t = 5 := (Option.some.inj ht).symm; exact (show Tryd.prog.wantsStandIn 5 = false by kernel_rfl)
        | 2, ht => obtain rfl : t = 9 := (Option.some.inj ht).symm; exact (show Tryd.prog.wantsStandIn 9 = false by kernel_rfl)
        | 3, ht => obtain rfl : t = 9 := (Option.some.inj ht).symm; exact (show Tryd.prog.wantsStandIn 9 = false by kernel_rfl)
        | _ + 4, ht => cases ht⟩)
    (by kernel_rfl)
end Go.Proofs.YthnheldoklgceaaDoor.automatonPlants
namespace Go.Proofs.YthnheldoklgceaaDoor
/-- The card, under a short name, for the claim. -/
theorem automatonPlants_holds : Rows.AutomatonPlantsCardSaid := automatonPlants.card_holds
#print axioms automatonPlants_holds
end Go.Proofs.YthnheldoklgceaaDoor
