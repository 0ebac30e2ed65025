/-
  DnsStreams: whatever the pieces, the law returns true and leaves its argument as it was.
-/
import Derived.Test.YtmjbcnbjedipdaaDoorRows
import Derived.Test.YtmjbcnbjedipdaaDoorDnP3
import Derived.Test.YtmjbcnbjedipdaaDoorTie
import Derived.Test.YtmjbcnbjedipdaaDoorCards
import Derived.Lay
namespace Go.Proofs.YtmjbcnbjedipdaaDoor.dnsStreams
set_option linter.unusedSimpArgs false
set_option linter.unusedVariables false
set_option maxRecDepth 20000
open Go Go.ChangeShapes Go.WideShapes Go.ChangeAt Go.RowKit
open Go.ChangeMaps (open_string shut_string)
theorem own : ownKnob Tryd.prog.godebug = none := by kernel_rfl
theorem laidOut : laidOutB Tryd.prog = true := by kernel_rfl
set_option maxRecDepth 100000 in
theorem lifted (os : Os) (started : os.Started) (H : Type) (enc : TypeId × Value → H) :
    ReturnsInHanded {} Tryd.checked os 8 .any (fun w args => (Rows.dnsStreamsSpec.pre enc Tryd.prog Tryd.f8 Rows.dnsStreamsRow.domain false w args ∧ laidMet Tryd.prog Rows.dnsStreamsRow.laid w) ∧ sizedMet enc Tryd.prog Tryd.f8 (OpenSpec.ofChange Rows.dnsStreamsSpec) false w args) (Rows.dnsStreamsSpec.post enc Tryd.prog Tryd.f8 false true false false) := by
  refine returnsInHanded_of_change_and (C := Tryd.checked) (X := fun w _ => laidMet Tryd.prog Rows.dnsStreamsRow.laid w) (fun _ _ _ hh h => h.of_heap hh) own started (by kernel_rfl) Tryd.func8
    (ChangeSpec.witness_at (enc := enc) (C := Tryd.checked) (os := os) (X := fun w _ => laidMet Tryd.prog Rows.dnsStreamsRow.laid w) false (World.laidAll Tryd.prog os Rows.dnsStreamsRow.laid) #[.slice none 0 0] 8 (World.laidAll_os ..) (by kernel_rfl) (by kernel_rfl) (by kernel_rfl) (by kernel_rfl) (by kernel_rfl)
      (laidMet_laidAll _ (by kernel_rfl) (by kernel_rfl))) ?_
  intro W base args ds gs before hval0 hW hcnd hsz0 hL _
  have hval : ∀ (j : Nat) t v, Tryd.f8.params[j]? = some t → args[j]? = some v → Value.okWide Tryd.prog W .any base t v := hval0
  have hW' := hW
  obtain ⟨p, q, hA0, hV, rfl, hfz, hnd⟩ := hW
  have hA : DataW.TrodAll enc Tryd.prog W 0 (fun _ => true) true Tryd.f8.params.toList args.toList ds p := hA0
  rw [Tryd.params8] at hA hval
  obtain ⟨v0, vs0, d0, ds0, p0, q0, hargs, rfl, rfl, h0, r0⟩ := trodAll_cons hA
  obtain ⟨rfl, rfl, rfl⟩ := trodAll_nil r0
  obtain rfl : args = #[v0] := by cases args; simp_all
  obtain ⟨rfl, rfl⟩ := trodVars_none hV
  have k0 := h0
  have lt0 : ∀ x ∈ p0, x.block < W.heap.size := by obtain ⟨m, hm⟩ := k0; exact DataW.trod_lt m _ _ _ hm
  obtain ⟨a0, len0, cap0, rfl⟩ := okWide_slice Tryd.underlying36 (hval 0 36 v0 rfl rfl)
  obtain ⟨x0, e0, o0⟩ : ∃ y : Sl (List UInt8), Value.slice a0 len0 cap0 = y.v ∧ (SlOk 1 (fun l : List UInt8 => [Value.string (bs l)]) sOk) W.heap y := by
    obtain ⟨fuel, hf⟩ := h0
    obtain ⟨y, e, o⟩ := ((op_sl Tryd.underlying36 (by kernel_rfl) (fun _ => rfl) (op_str Tryd.underlying9)) : Opens enc Tryd.prog W 36 (fun s : Sl (List UInt8) => [s.v]) (SlOk 1 (fun l : List UInt8 => [Value.string (bs l)]) sOk)) _ _ _ hf
    exact ⟨y, List.head_eq_of_cons_eq e, o⟩
  obtain ⟨rfl, rfl, rfl⟩ : a0 = x0.p ∧ len0 = x0.xs.length ∧ cap0 = x0.cap := by simpa [Sl.v] using e0
  clear hA0 hval0 hsz0
  refine (law_calls (Tryd.call8 _) (fun Q hk => DnsStreams_c x0 o0 hk)).mono fun e W' ⟨he, bel⟩ => ?_
  subst he
  exact ⟨_, rfl, _, _, _, [], _, [], hW', trodAll_mk1 (shut_bool Tryd.underlying4 _), (trodAll_cons_mk (Below.trod laidOut (by kernel_rfl) (of_decide_eq_true (by kernel_rfl)) k0 bel lt0) trodAll_mk0), rfl, bel.frame _, fun h => by cases h⟩
theorem over : Rows.dnsStreamsRow.holds Tryd.pinned (OpenSpec.ofChange Rows.dnsStreamsSpec) :=
  OpenClaim.holds_of_wide 8 Tryd.f8 rfl rfl rfl rfl rfl rfl rfl ⟨rfl, rfl, rfl, rfl, rfl⟩ rfl rfl rfl rfl rfl (by kernel_rfl) Tryd.func8 (by kernel_rfl)
    (of_decide_eq_true (by kernel_rfl)) (by unfold Func.isWrapper; first | (rw [if_pos (by decide +kernel)]; kernel_rfl) | (rw [if_neg (by decide +kernel)]; exact ⟨rfl, rfl⟩))
    (fun os started H enc _ => lifted os started H enc)
theorem card_holds : Rows.DnsStreamsCardSaid :=
  Claim7.holds_tied_plain_at .later [] [.data, .pinned] true (true, "1360903df229634e5ca42a94fa1cfb1d1055e09736cdc0932e2d414fd64fe1b9") false
    over (fun _ h => by cases h) (by kernel_rfl) (fun _ h => by cases h) dnsStreams_row_tie rfl ⟨rfl, rfl⟩ (by kernel_rfl) rfl
    (fun f fn hf hfn => by
      obtain rfl : f = 8 := Option.some.inj ((show Tryd.prog.funcNamed "intrusion/intrusionlaw29.DnsStreams" = some 8 by kernel_rfl).symm.trans hf) |>.symm
      obtain rfl : fn = Tryd.f8 := (Option.some.inj (Tryd.func8.symm.trans hfn)).symm
      exact ⟨by kernel_rfl, fun j t ht => by
        rw [Tryd.params8] at ht
        match j, ht with
        | 0, ht => obtain rfl : t = 36 := (Option.some.inj ht).symm; exact (show Tryd.prog.wantsStandIn 36 = false by kernel_rfl)
        | _ + 1, ht => cases ht⟩)
    (by kernel_rfl)
end Go.Proofs.YtmjbcnbjedipdaaDoor.dnsStreams
namespace Go.Proofs.YtmjbcnbjedipdaaDoor
/-- The card, under a short name, for the claim. -/
theorem dnsStreams_holds : Rows.DnsStreamsCardSaid := dnsStreams.card_holds
#print axioms dnsStreams_holds
end Go.Proofs.YtmjbcnbjedipdaaDoor
