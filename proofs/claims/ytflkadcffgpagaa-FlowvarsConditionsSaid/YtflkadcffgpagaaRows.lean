/-
  No cell of these rows narrows 'for every input' (looked for: loops, veiled, ifaces, maps, wideKeys, modest, calm, conditions, laid).
  DERIVED. THE GIVEN ROWS OF THIS SEAT. 5 by the template 'for every input the law returns true; each argument reads behind the call as it read before'; 0 by the template 'total and deterministic' (their statements: YtflkadcffgpagaaTotals.lean).
  GIVEN WITH THE SEED: the statements are not yours to turn. If you find one false, say at which input.
  Laid BY PROGRAM, IN A SANDBOX (cutbox-rows.mjs): the forced cells as the released guide's own fill.sh prints them over the translation 8986d855496328ea… (all of the seat's roots in one cut). By AI agents, Wed Nov 11 2026. No macro, syntax, notation, axiom, sorry.
-/
import Derived.Test.YtflkadcffgpagaaChecked
import GoSem.Claim
import GoSem.ClaimJoined
import GoSem.ClaimMapViews
import Derived.JoinedTies
import Derived.KernelRfl
namespace Go.Proofs.Ytflkadcffgpagaa
/- THE CELL 'sum', in the pinned program and in every row, IS THE sha256 OF THE DUMP (.gsa) THAT YtflkadcffgpagaaProg.lean LOADS. Nothing in Lean hashes anything: it is a label: what it is worth is what the hold of that sum in a sandbox is worth. -/
noncomputable def Try.pinned : Pinned := { name := "ytflkadcffgpagaa", sum := "8986d855496328ea120506e2deec986d4c91f8da90036a6fbb9b5359319625c9", checked := Try.checked }
namespace Rows
def none {H : Type} : Left H := { results := [], args := [] }

/-- 'intrusionlaw48.FlowvarsFails': WHATEVER THE INPUT: true; the input reads as it did. -/
def flowvarsFailsSpec : ChangeSpec := { name := "flowvarsFails", fn := fun _ => fun
  | [d] => { results := [.lit (.bool true)], args := [d] }
  | _ => none }
def flowvarsFailsRow : OpenClaim := { program := "ytflkadcffgpagaa", sum := "8986d855496328ea120506e2deec986d4c91f8da90036a6fbb9b5359319625c9", func := "intrusion/intrusionlaw48.FlowvarsFails", spec := "flowvarsFails", inPlace := ["maps.clone"], unfollowed := true, recurses := true, apart := false }
def FlowvarsFailsSaid : Prop := flowvarsFailsRow.holds Try.pinned (OpenSpec.ofChange flowvarsFailsSpec)

/-- ITS FALSE NEIGHBOUR: 'it returns false'. Refute it at one input. -/
def flowvarsFailsWrong : ChangeSpec := { name := "flowvarsFails", fn := fun _ => fun
  | [d] => { results := [.lit (.bool false)], args := [d] }
  | _ => none }
def FlowvarsFailsWrongFalsely : Prop := flowvarsFailsRow.holds Try.pinned (OpenSpec.ofChange flowvarsFailsWrong)

/-- 'intrusionlaw48.FlowvarsConditions': WHATEVER THE INPUT: true; the input reads as it did. -/
def flowvarsConditionsSpec : ChangeSpec := { name := "flowvarsConditions", fn := fun _ => fun
  | [d1, d2, d3] => { results := [.lit (.bool true)], args := [d1, d2, d3] }
  | _ => none }
def flowvarsConditionsRow : OpenClaim := { program := "ytflkadcffgpagaa", sum := "8986d855496328ea120506e2deec986d4c91f8da90036a6fbb9b5359319625c9", func := "intrusion/intrusionlaw48.FlowvarsConditions", spec := "flowvarsConditions", inPlace := ["maps.clone"], unfollowed := true, recurses := true, apart := false }
def FlowvarsConditionsSaid : Prop := flowvarsConditionsRow.holds Try.pinned (OpenSpec.ofChange flowvarsConditionsSpec)

/-- ITS FALSE NEIGHBOUR: 'it returns false'. Refute it at one input. -/
def flowvarsConditionsWrong : ChangeSpec := { name := "flowvarsConditions", fn := fun _ => fun
  | [d1, d2, d3] => { results := [.lit (.bool false)], args := [d1, d2, d3] }
  | _ => none }
def FlowvarsConditionsWrongFalsely : Prop := flowvarsConditionsRow.holds Try.pinned (OpenSpec.ofChange flowvarsConditionsWrong)

/-- 'intrusionlaw48.FlowvarsCalls': WHATEVER THE INPUT: true; the input reads as it did. -/
def flowvarsCallsSpec : ChangeSpec := { name := "flowvarsCalls", fn := fun _ => fun
  | [d] => { results := [.lit (.bool true)], args := [d] }
  | _ => none }
def flowvarsCallsRow : OpenClaim := { program := "ytflkadcffgpagaa", sum := "8986d855496328ea120506e2deec986d4c91f8da90036a6fbb9b5359319625c9", func := "intrusion/intrusionlaw48.FlowvarsCalls", spec := "flowvarsCalls", inPlace := ["maps.clone"], unfollowed := true, recurses := true, apart := false }
def FlowvarsCallsSaid : Prop := flowvarsCallsRow.holds Try.pinned (OpenSpec.ofChange flowvarsCallsSpec)

/-- ITS FALSE NEIGHBOUR: 'it returns false'. Refute it at one input. -/
def flowvarsCallsWrong : ChangeSpec := { name := "flowvarsCalls", fn := fun _ => fun
  | [d] => { results := [.lit (.bool false)], args := [d] }
  | _ => none }
def FlowvarsCallsWrongFalsely : Prop := flowvarsCallsRow.holds Try.pinned (OpenSpec.ofChange flowvarsCallsWrong)

/-- 'intrusionlaw48.FlowvarsOrders': WHATEVER THE INPUT: true; the input reads as it did. -/
def flowvarsOrdersSpec : ChangeSpec := { name := "flowvarsOrders", fn := fun _ => fun
  | [d1, d2, d3] => { results := [.lit (.bool true)], args := [d1, d2, d3] }
  | _ => none }
def flowvarsOrdersRow : OpenClaim := { program := "ytflkadcffgpagaa", sum := "8986d855496328ea120506e2deec986d4c91f8da90036a6fbb9b5359319625c9", func := "intrusion/intrusionlaw48.FlowvarsOrders", spec := "flowvarsOrders", inPlace := ["maps.clone"], unfollowed := true, recurses := true, apart := false }
def FlowvarsOrdersSaid : Prop := flowvarsOrdersRow.holds Try.pinned (OpenSpec.ofChange flowvarsOrdersSpec)

/-- ITS FALSE NEIGHBOUR: 'it returns false'. Refute it at one input. -/
def flowvarsOrdersWrong : ChangeSpec := { name := "flowvarsOrders", fn := fun _ => fun
  | [d1, d2, d3] => { results := [.lit (.bool false)], args := [d1, d2, d3] }
  | _ => none }
def FlowvarsOrdersWrongFalsely : Prop := flowvarsOrdersRow.holds Try.pinned (OpenSpec.ofChange flowvarsOrdersWrong)

/-- 'intrusionlaw48.FlowvarsNone': WHATEVER THE INPUT: true; the input reads as it did. -/
def flowvarsNoneSpec : ChangeSpec := { name := "flowvarsNone", fn := fun _ => fun
  | [d] => { results := [.lit (.bool true)], args := [d] }
  | _ => none }
def flowvarsNoneRow : OpenClaim := { program := "ytflkadcffgpagaa", sum := "8986d855496328ea120506e2deec986d4c91f8da90036a6fbb9b5359319625c9", func := "intrusion/intrusionlaw48.FlowvarsNone", spec := "flowvarsNone", inPlace := ["maps.clone"], unfollowed := true, recurses := true, apart := false }
def FlowvarsNoneSaid : Prop := flowvarsNoneRow.holds Try.pinned (OpenSpec.ofChange flowvarsNoneSpec)

/-- ITS FALSE NEIGHBOUR: 'it returns false'. Refute it at one input. -/
def flowvarsNoneWrong : ChangeSpec := { name := "flowvarsNone", fn := fun _ => fun
  | [d] => { results := [.lit (.bool false)], args := [d] }
  | _ => none }
def FlowvarsNoneWrongFalsely : Prop := flowvarsNoneRow.holds Try.pinned (OpenSpec.ofChange flowvarsNoneWrong)

/- THE SECOND FORM. 'bulk': how many values and letters a reading holds, each counted each time it is reached (what is shared counts as often as it is met; a slice's spare places count too). A statement '..UptoSaid' is the law's where the arguments, and the package variables that the reading takes, are together of bulk at most 1048576: NARROWER than '..Said'. Prove '..Said' where nothing that the law and all that it calls make is longer than what came in: it says more and counts as full. Else prove '..UptoSaid'. A law counts once. -/
mutual
def uptoBulk {H : Type} : DataW H → Nat
  | .lit (.string bytes) => bytes.length + 1
  | .lit _ => 1
  | .nil => 1
  | .ptr d => uptoBulk d + 1
  | .slice elems spare => uptoBulkAll elems + uptoBulkAll spare + 1
  | .agg parts => uptoBulkAll parts + 1
  | .iface _ d => uptoBulk d + 1
  | .map entries => uptoBulkEntries entries + 1
  | .held _ => 1
def uptoBulkAll {H : Type} : List (DataW H) → Nat
  | [] => 0
  | d :: r => uptoBulk d + uptoBulkAll r
def uptoBulkEntries {H : Type} : List (Lit × DataW H) → Nat
  | [] => 0
  | x :: r => uptoBulkEntry x + uptoBulkEntries r
def uptoBulkEntry {H : Type} : Lit × DataW H → Nat
  | (.string bytes, d) => bytes.length + uptoBulk d + 1
  | (_, d) => uptoBulk d + 1
 end
def uptoSmall : (H : Type) → List (DataW H) → Bool := fun _ ds => decide (uptoBulkAll ds ≤ 1048576)
def OpenSpec.upto (s : _root_.Go.ChangeSpec) : _root_.Go.OpenSpec := { _root_.Go.OpenSpec.ofChange s with cond := some uptoSmall }

/-- 'intrusionlaw48.FlowvarsFails', WHERE WHAT IT READS IS OF BULK AT MOST 1048576: true; the input reads as it did. -/
def flowvarsFailsUptoRow : OpenClaim := { program := "ytflkadcffgpagaa", sum := "8986d855496328ea120506e2deec986d4c91f8da90036a6fbb9b5359319625c9", func := "intrusion/intrusionlaw48.FlowvarsFails", spec := "flowvarsFails", inPlace := ["maps.clone"], unfollowed := true, recurses := true, apart := false, narrowed := true }
def FlowvarsFailsUptoSaid : Prop := flowvarsFailsUptoRow.holds Try.pinned (OpenSpec.upto flowvarsFailsSpec)

/-- 'intrusionlaw48.FlowvarsConditions', WHERE WHAT IT READS IS OF BULK AT MOST 1048576: true; the input reads as it did. -/
def flowvarsConditionsUptoRow : OpenClaim := { program := "ytflkadcffgpagaa", sum := "8986d855496328ea120506e2deec986d4c91f8da90036a6fbb9b5359319625c9", func := "intrusion/intrusionlaw48.FlowvarsConditions", spec := "flowvarsConditions", inPlace := ["maps.clone"], unfollowed := true, recurses := true, apart := false, narrowed := true }
def FlowvarsConditionsUptoSaid : Prop := flowvarsConditionsUptoRow.holds Try.pinned (OpenSpec.upto flowvarsConditionsSpec)

/-- 'intrusionlaw48.FlowvarsCalls', WHERE WHAT IT READS IS OF BULK AT MOST 1048576: true; the input reads as it did. -/
def flowvarsCallsUptoRow : OpenClaim := { program := "ytflkadcffgpagaa", sum := "8986d855496328ea120506e2deec986d4c91f8da90036a6fbb9b5359319625c9", func := "intrusion/intrusionlaw48.FlowvarsCalls", spec := "flowvarsCalls", inPlace := ["maps.clone"], unfollowed := true, recurses := true, apart := false, narrowed := true }
def FlowvarsCallsUptoSaid : Prop := flowvarsCallsUptoRow.holds Try.pinned (OpenSpec.upto flowvarsCallsSpec)

/-- 'intrusionlaw48.FlowvarsOrders', WHERE WHAT IT READS IS OF BULK AT MOST 1048576: true; the input reads as it did. -/
def flowvarsOrdersUptoRow : OpenClaim := { program := "ytflkadcffgpagaa", sum := "8986d855496328ea120506e2deec986d4c91f8da90036a6fbb9b5359319625c9", func := "intrusion/intrusionlaw48.FlowvarsOrders", spec := "flowvarsOrders", inPlace := ["maps.clone"], unfollowed := true, recurses := true, apart := false, narrowed := true }
def FlowvarsOrdersUptoSaid : Prop := flowvarsOrdersUptoRow.holds Try.pinned (OpenSpec.upto flowvarsOrdersSpec)

/-- 'intrusionlaw48.FlowvarsNone', WHERE WHAT IT READS IS OF BULK AT MOST 1048576: true; the input reads as it did. -/
def flowvarsNoneUptoRow : OpenClaim := { program := "ytflkadcffgpagaa", sum := "8986d855496328ea120506e2deec986d4c91f8da90036a6fbb9b5359319625c9", func := "intrusion/intrusionlaw48.FlowvarsNone", spec := "flowvarsNone", inPlace := ["maps.clone"], unfollowed := true, recurses := true, apart := false, narrowed := true }
def FlowvarsNoneUptoSaid : Prop := flowvarsNoneUptoRow.holds Try.pinned (OpenSpec.upto flowvarsNoneSpec)

end Rows
end Go.Proofs.Ytflkadcffgpagaa
