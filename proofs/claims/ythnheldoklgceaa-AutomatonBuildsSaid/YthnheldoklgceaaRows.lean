/-
  No cell of these rows narrows 'for every input' (looked for: loops, veiled, ifaces, maps, wideKeys, modest, calm, conditions, laid).
  DERIVED. THE GIVEN ROWS OF THIS SEAT. 5 by the template 'for every input the law returns true; each argument reads behind the call as it read before'; 0 by the template 'total and deterministic' (their statements: YthnheldoklgceaaTotals.lean).
  GIVEN WITH THE SEED: the statements are not yours to turn. If you find one false, say at which input.
  Laid BY PROGRAM, IN A SANDBOX (cutbox-rows.mjs): the forced cells as the released guide's own fill.sh prints them over the translation 5d84804629a5f1a4… (all of the seat's roots in one cut). By AI agents, Wed Nov 11 2026. No macro, syntax, notation, axiom, sorry.
-/
import Derived.Test.YthnheldoklgceaaChecked
import GoSem.Claim
import GoSem.ClaimJoined
import GoSem.ClaimMapViews
import Derived.JoinedTies
import Derived.KernelRfl
namespace Go.Proofs.Ythnheldoklgceaa
/- THE CELL 'sum', in the pinned program and in every row, IS THE sha256 OF THE DUMP (.gsa) THAT YthnheldoklgceaaProg.lean LOADS. Nothing in Lean hashes anything: it is a label: what it is worth is what the hold of that sum in a sandbox is worth. -/
noncomputable def Try.pinned : Pinned := { name := "ythnheldoklgceaa", sum := "5d84804629a5f1a438c6f9f0623e1ed85f663d460ec90998d633e94d88549499", checked := Try.checked }
namespace Rows
def none {H : Type} : Left H := { results := [], args := [] }

/-- 'intrusionlaw45.AutomatonBuilds': WHATEVER THE INPUT: true; the input reads as it did. -/
def automatonBuildsSpec : ChangeSpec := { name := "automatonBuilds", fn := fun _ => fun
  | [d] => { results := [.lit (.bool true)], args := [d] }
  | _ => none }
def automatonBuildsRow : OpenClaim := { program := "ythnheldoklgceaa", sum := "5d84804629a5f1a438c6f9f0623e1ed85f663d460ec90998d633e94d88549499", func := "intrusion/intrusionlaw45.AutomatonBuilds", spec := "automatonBuilds", unfollowed := true, recurses := true, apart := false }
def AutomatonBuildsSaid : Prop := automatonBuildsRow.holds Try.pinned (OpenSpec.ofChange automatonBuildsSpec)

/-- ITS FALSE NEIGHBOUR: 'it returns false'. Refute it at one input. -/
def automatonBuildsWrong : ChangeSpec := { name := "automatonBuilds", fn := fun _ => fun
  | [d] => { results := [.lit (.bool false)], args := [d] }
  | _ => none }
def AutomatonBuildsWrongFalsely : Prop := automatonBuildsRow.holds Try.pinned (OpenSpec.ofChange automatonBuildsWrong)

/-- 'intrusionlaw45.AutomatonScans': WHATEVER THE INPUT: true; the input reads as it did. -/
def automatonScansSpec : ChangeSpec := { name := "automatonScans", fn := fun _ => fun
  | [d1, d2] => { results := [.lit (.bool true)], args := [d1, d2] }
  | _ => none }
def automatonScansRow : OpenClaim := { program := "ythnheldoklgceaa", sum := "5d84804629a5f1a438c6f9f0623e1ed85f663d460ec90998d633e94d88549499", func := "intrusion/intrusionlaw45.AutomatonScans", spec := "automatonScans", unfollowed := true, recurses := true, apart := false }
def AutomatonScansSaid : Prop := automatonScansRow.holds Try.pinned (OpenSpec.ofChange automatonScansSpec)

/-- ITS FALSE NEIGHBOUR: 'it returns false'. Refute it at one input. -/
def automatonScansWrong : ChangeSpec := { name := "automatonScans", fn := fun _ => fun
  | [d1, d2] => { results := [.lit (.bool false)], args := [d1, d2] }
  | _ => none }
def AutomatonScansWrongFalsely : Prop := automatonScansRow.holds Try.pinned (OpenSpec.ofChange automatonScansWrong)

/-- 'intrusionlaw45.AutomatonPieces': WHATEVER THE INPUT: true; the input reads as it did. -/
def automatonPiecesSpec : ChangeSpec := { name := "automatonPieces", fn := fun _ => fun
  | [d1, d2, d3] => { results := [.lit (.bool true)], args := [d1, d2, d3] }
  | _ => none }
def automatonPiecesRow : OpenClaim := { program := "ythnheldoklgceaa", sum := "5d84804629a5f1a438c6f9f0623e1ed85f663d460ec90998d633e94d88549499", func := "intrusion/intrusionlaw45.AutomatonPieces", spec := "automatonPieces", unfollowed := true, recurses := true, apart := false }
def AutomatonPiecesSaid : Prop := automatonPiecesRow.holds Try.pinned (OpenSpec.ofChange automatonPiecesSpec)

/-- ITS FALSE NEIGHBOUR: 'it returns false'. Refute it at one input. -/
def automatonPiecesWrong : ChangeSpec := { name := "automatonPieces", fn := fun _ => fun
  | [d1, d2, d3] => { results := [.lit (.bool false)], args := [d1, d2, d3] }
  | _ => none }
def AutomatonPiecesWrongFalsely : Prop := automatonPiecesRow.holds Try.pinned (OpenSpec.ofChange automatonPiecesWrong)

/-- 'intrusionlaw45.AutomatonNone': WHATEVER THE INPUT: true; the input reads as it did. -/
def automatonNoneSpec : ChangeSpec := { name := "automatonNone", fn := fun _ => fun
  | [d] => { results := [.lit (.bool true)], args := [d] }
  | _ => none }
def automatonNoneRow : OpenClaim := { program := "ythnheldoklgceaa", sum := "5d84804629a5f1a438c6f9f0623e1ed85f663d460ec90998d633e94d88549499", func := "intrusion/intrusionlaw45.AutomatonNone", spec := "automatonNone", unfollowed := true, recurses := true, apart := false }
def AutomatonNoneSaid : Prop := automatonNoneRow.holds Try.pinned (OpenSpec.ofChange automatonNoneSpec)

/-- ITS FALSE NEIGHBOUR: 'it returns false'. Refute it at one input. -/
def automatonNoneWrong : ChangeSpec := { name := "automatonNone", fn := fun _ => fun
  | [d] => { results := [.lit (.bool false)], args := [d] }
  | _ => none }
def AutomatonNoneWrongFalsely : Prop := automatonNoneRow.holds Try.pinned (OpenSpec.ofChange automatonNoneWrong)

/-- 'intrusionlaw45.AutomatonPlain': WHATEVER THE INPUT: true; the input reads as it did. -/
def automatonPlainSpec : ChangeSpec := { name := "automatonPlain", fn := fun _ => fun
  | [d1, d2] => { results := [.lit (.bool true)], args := [d1, d2] }
  | _ => none }
def automatonPlainRow : OpenClaim := { program := "ythnheldoklgceaa", sum := "5d84804629a5f1a438c6f9f0623e1ed85f663d460ec90998d633e94d88549499", func := "intrusion/intrusionlaw45.AutomatonPlain", spec := "automatonPlain", unfollowed := true, recurses := true, apart := false }
def AutomatonPlainSaid : Prop := automatonPlainRow.holds Try.pinned (OpenSpec.ofChange automatonPlainSpec)

/-- ITS FALSE NEIGHBOUR: 'it returns false'. Refute it at one input. -/
def automatonPlainWrong : ChangeSpec := { name := "automatonPlain", fn := fun _ => fun
  | [d1, d2] => { results := [.lit (.bool false)], args := [d1, d2] }
  | _ => none }
def AutomatonPlainWrongFalsely : Prop := automatonPlainRow.holds Try.pinned (OpenSpec.ofChange automatonPlainWrong)

/- THE SECOND FORM. 'bulk': how many values and letters a reading holds, each counted each time it is reached (what is shared counts as often as it is met; a slice's spare places count too). A statement '..UptoSaid' is the law's where the arguments, and the package variables that the reading takes, are together of bulk at most 1048576: NARROWER than '..Said'. Prove '..Said' where nothing that the law and all that it calls make is longer than what came in: it says more and counts as full. Else prove '..UptoSaid'. A law counts once. -/
mutual
def uptoBulk {H : Type} : DataW H → Nat
  | .lit (.string bytes) => bytes.length + 1
  | .lit _ => 1
  | .nil => 1
  | .ptr d => uptoBulk d + 1
  | .slice elems spare => uptoBulkAll elems + uptoBulkAll spare + 1
  | .agg parts => uptoBulkAll parts + 1
  | .iface _ d => uptoBulk d + 1
  | .map entries => uptoBulkEntries entries + 1
  | .held _ => 1
def uptoBulkAll {H : Type} : List (DataW H) → Nat
  | [] => 0
  | d :: r => uptoBulk d + uptoBulkAll r
def uptoBulkEntries {H : Type} : List (Lit × DataW H) → Nat
  | [] => 0
  | x :: r => uptoBulkEntry x + uptoBulkEntries r
def uptoBulkEntry {H : Type} : Lit × DataW H → Nat
  | (.string bytes, d) => bytes.length + uptoBulk d + 1
  | (_, d) => uptoBulk d + 1
 end
def uptoSmall : (H : Type) → List (DataW H) → Bool := fun _ ds => decide (uptoBulkAll ds ≤ 1048576)
def OpenSpec.upto (s : _root_.Go.ChangeSpec) : _root_.Go.OpenSpec := { _root_.Go.OpenSpec.ofChange s with cond := some uptoSmall }

/-- 'intrusionlaw45.AutomatonBuilds', WHERE WHAT IT READS IS OF BULK AT MOST 1048576: true; the input reads as it did. -/
def automatonBuildsUptoRow : OpenClaim := { program := "ythnheldoklgceaa", sum := "5d84804629a5f1a438c6f9f0623e1ed85f663d460ec90998d633e94d88549499", func := "intrusion/intrusionlaw45.AutomatonBuilds", spec := "automatonBuilds", unfollowed := true, recurses := true, apart := false, narrowed := true }
def AutomatonBuildsUptoSaid : Prop := automatonBuildsUptoRow.holds Try.pinned (OpenSpec.upto automatonBuildsSpec)

/-- 'intrusionlaw45.AutomatonScans', WHERE WHAT IT READS IS OF BULK AT MOST 1048576: true; the input reads as it did. -/
def automatonScansUptoRow : OpenClaim := { program := "ythnheldoklgceaa", sum := "5d84804629a5f1a438c6f9f0623e1ed85f663d460ec90998d633e94d88549499", func := "intrusion/intrusionlaw45.AutomatonScans", spec := "automatonScans", unfollowed := true, recurses := true, apart := false, narrowed := true }
def AutomatonScansUptoSaid : Prop := automatonScansUptoRow.holds Try.pinned (OpenSpec.upto automatonScansSpec)

/-- 'intrusionlaw45.AutomatonPieces', WHERE WHAT IT READS IS OF BULK AT MOST 1048576: true; the input reads as it did. -/
def automatonPiecesUptoRow : OpenClaim := { program := "ythnheldoklgceaa", sum := "5d84804629a5f1a438c6f9f0623e1ed85f663d460ec90998d633e94d88549499", func := "intrusion/intrusionlaw45.AutomatonPieces", spec := "automatonPieces", unfollowed := true, recurses := true, apart := false, narrowed := true }
def AutomatonPiecesUptoSaid : Prop := automatonPiecesUptoRow.holds Try.pinned (OpenSpec.upto automatonPiecesSpec)

/-- 'intrusionlaw45.AutomatonNone', WHERE WHAT IT READS IS OF BULK AT MOST 1048576: true; the input reads as it did. -/
def automatonNoneUptoRow : OpenClaim := { program := "ythnheldoklgceaa", sum := "5d84804629a5f1a438c6f9f0623e1ed85f663d460ec90998d633e94d88549499", func := "intrusion/intrusionlaw45.AutomatonNone", spec := "automatonNone", unfollowed := true, recurses := true, apart := false, narrowed := true }
def AutomatonNoneUptoSaid : Prop := automatonNoneUptoRow.holds Try.pinned (OpenSpec.upto automatonNoneSpec)

/-- 'intrusionlaw45.AutomatonPlain', WHERE WHAT IT READS IS OF BULK AT MOST 1048576: true; the input reads as it did. -/
def automatonPlainUptoRow : OpenClaim := { program := "ythnheldoklgceaa", sum := "5d84804629a5f1a438c6f9f0623e1ed85f663d460ec90998d633e94d88549499", func := "intrusion/intrusionlaw45.AutomatonPlain", spec := "automatonPlain", unfollowed := true, recurses := true, apart := false, narrowed := true }
def AutomatonPlainUptoSaid : Prop := automatonPlainUptoRow.holds Try.pinned (OpenSpec.upto automatonPlainSpec)

end Rows
end Go.Proofs.Ythnheldoklgceaa
