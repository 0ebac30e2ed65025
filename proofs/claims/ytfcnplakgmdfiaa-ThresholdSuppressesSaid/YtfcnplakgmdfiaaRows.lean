/-
  No cell of these rows narrows 'for every input' (looked for: loops, veiled, ifaces, maps, wideKeys, modest, calm, conditions, laid).
  DERIVED. THE GIVEN ROWS OF THIS SEAT. 4 by the template 'for every input the law returns true; each argument reads behind the call as it read before'; 0 by the template 'total and deterministic' (their statements: YtfcnplakgmdfiaaTotals.lean).
  GIVEN WITH THE SEED: the statements are not yours to turn. If you find one false, say at which input.
  Laid BY PROGRAM, IN A SANDBOX (cutbox-rows.mjs): the forced cells as the released guide's own fill.sh prints them over the translation 3087f9636b10e69d… (all of the seat's roots in one cut). By AI agents, Wed Nov 11 2026. No macro, syntax, notation, axiom, sorry.
-/
import Derived.Test.YtfcnplakgmdfiaaChecked
import GoSem.Claim
import GoSem.ClaimJoined
import GoSem.ClaimMapViews
import Derived.JoinedTies
import Derived.KernelRfl
namespace Go.Proofs.Ytfcnplakgmdfiaa
/- THE CELL 'sum', in the pinned program and in every row, IS THE sha256 OF THE DUMP (.gsa) THAT YtfcnplakgmdfiaaProg.lean LOADS. Nothing in Lean hashes anything: it is a label: what it is worth is what the hold of that sum in a sandbox is worth. -/
noncomputable def Try.pinned : Pinned := { name := "ytfcnplakgmdfiaa", sum := "3087f9636b10e69d7de8c25fccc35b70ecbeb2619f2575623070a9e917bf8e6c", checked := Try.checked }
namespace Rows
def none {H : Type} : Left H := { results := [], args := [] }

/-- 'intrusionlaw51.ThresholdFull': WHATEVER THE INPUT: true; the input reads as it did. -/
def thresholdFullSpec : ChangeSpec := { name := "thresholdFull", fn := fun _ => fun
  | [d1, d2, d3] => { results := [.lit (.bool true)], args := [d1, d2, d3] }
  | _ => none }
def thresholdFullRow : OpenClaim := { program := "ytfcnplakgmdfiaa", sum := "3087f9636b10e69d7de8c25fccc35b70ecbeb2619f2575623070a9e917bf8e6c", func := "intrusion/intrusionlaw51.ThresholdFull", spec := "thresholdFull", plainKeys := false, apart := false }
def ThresholdFullSaid : Prop := thresholdFullRow.holds Try.pinned (OpenSpec.ofChange thresholdFullSpec)

/-- ITS FALSE NEIGHBOUR: 'it returns false'. Refute it at one input. -/
def thresholdFullWrong : ChangeSpec := { name := "thresholdFull", fn := fun _ => fun
  | [d1, d2, d3] => { results := [.lit (.bool false)], args := [d1, d2, d3] }
  | _ => none }
def ThresholdFullWrongFalsely : Prop := thresholdFullRow.holds Try.pinned (OpenSpec.ofChange thresholdFullWrong)

/-- 'intrusionlaw51.ThresholdCounts': WHATEVER THE INPUT: true; the input reads as it did. -/
def thresholdCountsSpec : ChangeSpec := { name := "thresholdCounts", fn := fun _ => fun
  | [d1, d2] => { results := [.lit (.bool true)], args := [d1, d2] }
  | _ => none }
def thresholdCountsRow : OpenClaim := { program := "ytfcnplakgmdfiaa", sum := "3087f9636b10e69d7de8c25fccc35b70ecbeb2619f2575623070a9e917bf8e6c", func := "intrusion/intrusionlaw51.ThresholdCounts", spec := "thresholdCounts", plainKeys := false, apart := false }
def ThresholdCountsSaid : Prop := thresholdCountsRow.holds Try.pinned (OpenSpec.ofChange thresholdCountsSpec)

/-- ITS FALSE NEIGHBOUR: 'it returns false'. Refute it at one input. -/
def thresholdCountsWrong : ChangeSpec := { name := "thresholdCounts", fn := fun _ => fun
  | [d1, d2] => { results := [.lit (.bool false)], args := [d1, d2] }
  | _ => none }
def ThresholdCountsWrongFalsely : Prop := thresholdCountsRow.holds Try.pinned (OpenSpec.ofChange thresholdCountsWrong)

/-- 'intrusionlaw51.ThresholdPlays': WHATEVER THE INPUT: true; the input reads as it did. -/
def thresholdPlaysSpec : ChangeSpec := { name := "thresholdPlays", fn := fun _ => fun
  | [d] => { results := [.lit (.bool true)], args := [d] }
  | _ => none }
def thresholdPlaysRow : OpenClaim := { program := "ytfcnplakgmdfiaa", sum := "3087f9636b10e69d7de8c25fccc35b70ecbeb2619f2575623070a9e917bf8e6c", func := "intrusion/intrusionlaw51.ThresholdPlays", spec := "thresholdPlays", unfollowed := true, recurses := true, plainKeys := false, apart := false }
def ThresholdPlaysSaid : Prop := thresholdPlaysRow.holds Try.pinned (OpenSpec.ofChange thresholdPlaysSpec)

/-- ITS FALSE NEIGHBOUR: 'it returns false'. Refute it at one input. -/
def thresholdPlaysWrong : ChangeSpec := { name := "thresholdPlays", fn := fun _ => fun
  | [d] => { results := [.lit (.bool false)], args := [d] }
  | _ => none }
def ThresholdPlaysWrongFalsely : Prop := thresholdPlaysRow.holds Try.pinned (OpenSpec.ofChange thresholdPlaysWrong)

/-- 'intrusionlaw51.ThresholdSuppresses': WHATEVER THE INPUT: true; the input reads as it did. -/
def thresholdSuppressesSpec : ChangeSpec := { name := "thresholdSuppresses", fn := fun _ => fun
  | [d1, d2, d3] => { results := [.lit (.bool true)], args := [d1, d2, d3] }
  | _ => none }
def thresholdSuppressesRow : OpenClaim := { program := "ytfcnplakgmdfiaa", sum := "3087f9636b10e69d7de8c25fccc35b70ecbeb2619f2575623070a9e917bf8e6c", func := "intrusion/intrusionlaw51.ThresholdSuppresses", spec := "thresholdSuppresses", plainKeys := false, apart := false }
def ThresholdSuppressesSaid : Prop := thresholdSuppressesRow.holds Try.pinned (OpenSpec.ofChange thresholdSuppressesSpec)

/-- ITS FALSE NEIGHBOUR: 'it returns false'. Refute it at one input. -/
def thresholdSuppressesWrong : ChangeSpec := { name := "thresholdSuppresses", fn := fun _ => fun
  | [d1, d2, d3] => { results := [.lit (.bool false)], args := [d1, d2, d3] }
  | _ => none }
def ThresholdSuppressesWrongFalsely : Prop := thresholdSuppressesRow.holds Try.pinned (OpenSpec.ofChange thresholdSuppressesWrong)

/- THE SECOND FORM. 'bulk': how many values and letters a reading holds, each counted each time it is reached (what is shared counts as often as it is met; a slice's spare places count too). A statement '..UptoSaid' is the law's where the arguments, and the package variables that the reading takes, are together of bulk at most 1048576: NARROWER than '..Said'. Prove '..Said' where nothing that the law and all that it calls make is longer than what came in: it says more and counts as full. Else prove '..UptoSaid'. A law counts once. -/
mutual
def uptoBulk {H : Type} : DataW H → Nat
  | .lit (.string bytes) => bytes.length + 1
  | .lit _ => 1
  | .nil => 1
  | .ptr d => uptoBulk d + 1
  | .slice elems spare => uptoBulkAll elems + uptoBulkAll spare + 1
  | .agg parts => uptoBulkAll parts + 1
  | .iface _ d => uptoBulk d + 1
  | .map entries => uptoBulkEntries entries + 1
  | .held _ => 1
def uptoBulkAll {H : Type} : List (DataW H) → Nat
  | [] => 0
  | d :: r => uptoBulk d + uptoBulkAll r
def uptoBulkEntries {H : Type} : List (Lit × DataW H) → Nat
  | [] => 0
  | x :: r => uptoBulkEntry x + uptoBulkEntries r
def uptoBulkEntry {H : Type} : Lit × DataW H → Nat
  | (.string bytes, d) => bytes.length + uptoBulk d + 1
  | (_, d) => uptoBulk d + 1
 end
def uptoSmall : (H : Type) → List (DataW H) → Bool := fun _ ds => decide (uptoBulkAll ds ≤ 1048576)
def OpenSpec.upto (s : _root_.Go.ChangeSpec) : _root_.Go.OpenSpec := { _root_.Go.OpenSpec.ofChange s with cond := some uptoSmall }

/-- 'intrusionlaw51.ThresholdFull', WHERE WHAT IT READS IS OF BULK AT MOST 1048576: true; the input reads as it did. -/
def thresholdFullUptoRow : OpenClaim := { program := "ytfcnplakgmdfiaa", sum := "3087f9636b10e69d7de8c25fccc35b70ecbeb2619f2575623070a9e917bf8e6c", func := "intrusion/intrusionlaw51.ThresholdFull", spec := "thresholdFull", plainKeys := false, apart := false, narrowed := true }
def ThresholdFullUptoSaid : Prop := thresholdFullUptoRow.holds Try.pinned (OpenSpec.upto thresholdFullSpec)

/-- 'intrusionlaw51.ThresholdCounts', WHERE WHAT IT READS IS OF BULK AT MOST 1048576: true; the input reads as it did. -/
def thresholdCountsUptoRow : OpenClaim := { program := "ytfcnplakgmdfiaa", sum := "3087f9636b10e69d7de8c25fccc35b70ecbeb2619f2575623070a9e917bf8e6c", func := "intrusion/intrusionlaw51.ThresholdCounts", spec := "thresholdCounts", plainKeys := false, apart := false, narrowed := true }
def ThresholdCountsUptoSaid : Prop := thresholdCountsUptoRow.holds Try.pinned (OpenSpec.upto thresholdCountsSpec)

/-- 'intrusionlaw51.ThresholdPlays', WHERE WHAT IT READS IS OF BULK AT MOST 1048576: true; the input reads as it did. -/
def thresholdPlaysUptoRow : OpenClaim := { program := "ytfcnplakgmdfiaa", sum := "3087f9636b10e69d7de8c25fccc35b70ecbeb2619f2575623070a9e917bf8e6c", func := "intrusion/intrusionlaw51.ThresholdPlays", spec := "thresholdPlays", unfollowed := true, recurses := true, plainKeys := false, apart := false, narrowed := true }
def ThresholdPlaysUptoSaid : Prop := thresholdPlaysUptoRow.holds Try.pinned (OpenSpec.upto thresholdPlaysSpec)

/-- 'intrusionlaw51.ThresholdSuppresses', WHERE WHAT IT READS IS OF BULK AT MOST 1048576: true; the input reads as it did. -/
def thresholdSuppressesUptoRow : OpenClaim := { program := "ytfcnplakgmdfiaa", sum := "3087f9636b10e69d7de8c25fccc35b70ecbeb2619f2575623070a9e917bf8e6c", func := "intrusion/intrusionlaw51.ThresholdSuppresses", spec := "thresholdSuppresses", plainKeys := false, apart := false, narrowed := true }
def ThresholdSuppressesUptoSaid : Prop := thresholdSuppressesUptoRow.holds Try.pinned (OpenSpec.upto thresholdSuppressesSpec)

end Rows
end Go.Proofs.Ytfcnplakgmdfiaa
