/-
  DnsEncodes: whatever the message, the law returns true and leaves its argument as it was.
-/
import Derived.Test.YtmjbcnbjedipdaaDoorRows
import Derived.Test.YtmjbcnbjedipdaaDoorDnP3
import Derived.Test.YtmjbcnbjedipdaaDoorTie
import Derived.Test.YtmjbcnbjedipdaaDoorCards
import Derived.Lay
namespace Go.Proofs.YtmjbcnbjedipdaaDoor.dnsEncodes
set_option linter.unusedSimpArgs false
set_option linter.unusedVariables false
set_option maxRecDepth 20000
open Go Go.ChangeShapes Go.WideShapes Go.ChangeAt Go.RowKit
open Go.ChangeMaps (open_string shut_string)
theorem own : ownKnob Tryd.prog.godebug = none := by kernel_rfl
theorem laidOut : laidOutB Tryd.prog = true := by kernel_rfl
set_option maxRecDepth 100000 in
theorem lifted (os : Os) (started : os.Started) (H : Type) (enc : TypeId × Value → H) :
    ReturnsInHanded {} Tryd.checked os 5 .any (fun w args => (Rows.dnsEncodesSpec.pre enc Tryd.prog Tryd.f5 Rows.dnsEncodesRow.domain false w args ∧ laidMet Tryd.prog Rows.dnsEncodesRow.laid w) ∧ sizedMet enc Tryd.prog Tryd.f5 (OpenSpec.ofChange Rows.dnsEncodesSpec) false w args) (Rows.dnsEncodesSpec.post enc Tryd.prog Tryd.f5 false true false false) := by
  refine returnsInHanded_of_change_and (C := Tryd.checked) (X := fun w _ => laidMet Tryd.prog Rows.dnsEncodesRow.laid w) (fun _ _ _ hh h => h.of_heap hh) own started (by kernel_rfl) Tryd.func5
    (ChangeSpec.witness_at (enc := enc) (C := Tryd.checked) (os := os) (X := fun w _ => laidMet Tryd.prog Rows.dnsEncodesRow.laid w) false (World.laidAll Tryd.prog os Rows.dnsEncodesRow.laid) #[.agg #[.int .i64 0, .int .i64 0, .slice none 0 0, .slice none 0 0]] 8 (World.laidAll_os ..) (by kernel_rfl) (by kernel_rfl) (by kernel_rfl) (by kernel_rfl) (by kernel_rfl)
      (laidMet_laidAll _ (by kernel_rfl) (by kernel_rfl))) ?_
  intro W base args ds gs before hval0 hW hcnd hsz0 hL _
  have hval : ∀ (j : Nat) t v, Tryd.f5.params[j]? = some t → args[j]? = some v → Value.okWide Tryd.prog W .any base t v := hval0
  have hW' := hW
  obtain ⟨p, q, hA0, hV, rfl, hfz, hnd⟩ := hW
  have hA : DataW.TrodAll enc Tryd.prog W 0 (fun _ => true) true Tryd.f5.params.toList args.toList ds p := hA0
  rw [Tryd.params5] at hA hval
  obtain ⟨v0, vs0, d0, ds0, p0, q0, hargs, rfl, rfl, h0, r0⟩ := trodAll_cons hA
  obtain ⟨rfl, rfl, rfl⟩ := trodAll_nil r0
  obtain rfl : args = #[v0] := by cases args; simp_all
  obtain ⟨rfl, rfl⟩ := trodVars_none hV
  have k0 := h0
  have lt0 : ∀ x ∈ p0, x.block < W.heap.size := by obtain ⟨m, hm⟩ := k0; exact DataW.trod_lt m _ _ _ hm
  obtain ⟨c0, rfl, _⟩ := okWide_struct Tryd.underlying27 (hval 0 27 v0 rfl rfl)
  obtain ⟨x0, e0, o0⟩ : ∃ y : S_api_Dns, c0 = (S_api_Dns.vals y).toArray ∧ S_api_Dns.ok W.heap y := by
    obtain ⟨fuel, hf⟩ := h0
    obtain ⟨y, e, o⟩ := (S_api_Dns.op : Opens enc Tryd.prog W 27 S_api_Dns.vals S_api_Dns.ok) _ _ _ hf
    exact ⟨y, by rw [← e]; simp [Value.cells], o⟩
  subst e0
  clear hA0 hval0 hsz0
  refine (law_calls (Tryd.call5 _) (fun Q hk => DnsEncodes_c x0 o0 hk)).mono fun e W' ⟨he, bel⟩ => ?_
  subst he
  exact ⟨_, rfl, _, _, _, [], _, [], hW', trodAll_mk1 (shut_bool Tryd.underlying4 _), (trodAll_cons_mk (Below.trod laidOut (by kernel_rfl) (of_decide_eq_true (by kernel_rfl)) k0 bel lt0) trodAll_mk0), rfl, bel.frame _, fun h => by cases h⟩
theorem over : Rows.dnsEncodesRow.holds Tryd.pinned (OpenSpec.ofChange Rows.dnsEncodesSpec) :=
  OpenClaim.holds_of_wide 5 Tryd.f5 rfl rfl rfl rfl rfl rfl rfl ⟨rfl, rfl, rfl, rfl, rfl⟩ rfl rfl rfl rfl rfl (by kernel_rfl) Tryd.func5 (by kernel_rfl)
    (of_decide_eq_true (by kernel_rfl)) (by unfold Func.isWrapper; first | (rw [if_pos (by decide +kernel)]; kernel_rfl) | (rw [if_neg (by decide +kernel)]; exact ⟨rfl, rfl⟩))
    (fun os started H enc _ => lifted os started H enc)
theorem card_holds : Rows.DnsEncodesCardSaid :=
  Claim7.holds_tied_plain_at .later [] [.data, .pinned] true (true, "1360903df229634e5ca42a94fa1cfb1d1055e09736cdc0932e2d414fd64fe1b9") false
    over (fun _ h => by cases h) (by kernel_rfl) (fun _ h => by cases h) dnsEncodes_row_tie rfl ⟨rfl, rfl⟩ (by kernel_rfl) rfl
    (fun f fn hf hfn => by
      obtain rfl : f = 5 := Option.some.inj ((show Tryd.prog.funcNamed "intrusion/intrusionlaw29.DnsEncodes" = some 5 by kernel_rfl).symm.trans hf) |>.symm
      obtain rfl : fn = Tryd.f5 := (Option.some.inj (Tryd.func5.symm.trans hfn)).symm
      exact ⟨by kernel_rfl, fun j t ht => by
        rw [Tryd.params5] at ht
        match j, ht with
        | 0, ht => obtain rfl : t = 27 := (Option.some.inj ht).symm; exact (show Tryd.prog.wantsStandIn 27 = false by kernel_rfl)
        | _ + 1, ht => cases ht⟩)
    (by kernel_rfl)
end Go.Proofs.YtmjbcnbjedipdaaDoor.dnsEncodes
namespace Go.Proofs.YtmjbcnbjedipdaaDoor
/-- The card, under a short name, for the claim. -/
theorem dnsEncodes_holds : Rows.DnsEncodesCardSaid := dnsEncodes.card_holds
#print axioms dnsEncodes_holds
end Go.Proofs.YtmjbcnbjedipdaaDoor
