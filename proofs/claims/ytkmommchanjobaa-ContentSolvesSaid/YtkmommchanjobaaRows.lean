/-
  No cell of these rows narrows 'for every input' (looked for: loops, veiled, ifaces, maps, wideKeys, modest, calm, conditions, laid).
  DERIVED. THE GIVEN ROWS OF THIS SEAT. 5 by the template 'for every input the law returns true; each argument reads behind the call as it read before'; 0 by the template 'total and deterministic' (their statements: YtkmommchanjobaaTotals.lean).
  GIVEN WITH THE SEED: the statements are not yours to turn. If you find one false, say at which input.
  Laid BY PROGRAM, IN A SANDBOX (cutbox-rows.mjs): the forced cells as the released guide's own fill.sh prints them over the translation 12b25d48c540a000… (all of the seat's roots in one cut). By AI agents, Wed Nov 11 2026. No macro, syntax, notation, axiom, sorry.
-/
import Derived.Test.YtkmommchanjobaaChecked
import GoSem.Claim
import GoSem.ClaimJoined
import GoSem.ClaimMapViews
import Derived.JoinedTies
import Derived.KernelRfl
namespace Go.Proofs.Ytkmommchanjobaa
/- THE CELL 'sum', in the pinned program and in every row, IS THE sha256 OF THE DUMP (.gsa) THAT YtkmommchanjobaaProg.lean LOADS. Nothing in Lean hashes anything: it is a label: what it is worth is what the hold of that sum in a sandbox is worth. -/
noncomputable def Try.pinned : Pinned := { name := "ytkmommchanjobaa", sum := "12b25d48c540a000ed94de343cc2bb9dfe79386b1cef7a5aeb82cd71b33eae42", checked := Try.checked }
namespace Rows
def none {H : Type} : Left H := { results := [], args := [] }

/-- 'intrusionlaw44.ContentPlaces': WHATEVER THE INPUT: true; the input reads as it did. -/
def contentPlacesSpec : ChangeSpec := { name := "contentPlaces", fn := fun _ => fun
  | [d1, d2, d3] => { results := [.lit (.bool true)], args := [d1, d2, d3] }
  | _ => none }
def contentPlacesRow : OpenClaim := { program := "ytkmommchanjobaa", sum := "12b25d48c540a000ed94de343cc2bb9dfe79386b1cef7a5aeb82cd71b33eae42", func := "intrusion/intrusionlaw44.ContentPlaces", spec := "contentPlaces", unfollowed := true, recurses := true, apart := false }
def ContentPlacesSaid : Prop := contentPlacesRow.holds Try.pinned (OpenSpec.ofChange contentPlacesSpec)

/-- ITS FALSE NEIGHBOUR: 'it returns false'. Refute it at one input. -/
def contentPlacesWrong : ChangeSpec := { name := "contentPlaces", fn := fun _ => fun
  | [d1, d2, d3] => { results := [.lit (.bool false)], args := [d1, d2, d3] }
  | _ => none }
def ContentPlacesWrongFalsely : Prop := contentPlacesRow.holds Try.pinned (OpenSpec.ofChange contentPlacesWrong)

/-- 'intrusionlaw44.ContentTests': WHATEVER THE INPUT: true; the input reads as it did. -/
def contentTestsSpec : ChangeSpec := { name := "contentTests", fn := fun _ => fun
  | [d1, d2, d3] => { results := [.lit (.bool true)], args := [d1, d2, d3] }
  | _ => none }
def contentTestsRow : OpenClaim := { program := "ytkmommchanjobaa", sum := "12b25d48c540a000ed94de343cc2bb9dfe79386b1cef7a5aeb82cd71b33eae42", func := "intrusion/intrusionlaw44.ContentTests", spec := "contentTests", unfollowed := true, recurses := true, apart := false }
def ContentTestsSaid : Prop := contentTestsRow.holds Try.pinned (OpenSpec.ofChange contentTestsSpec)

/-- ITS FALSE NEIGHBOUR: 'it returns false'. Refute it at one input. -/
def contentTestsWrong : ChangeSpec := { name := "contentTests", fn := fun _ => fun
  | [d1, d2, d3] => { results := [.lit (.bool false)], args := [d1, d2, d3] }
  | _ => none }
def ContentTestsWrongFalsely : Prop := contentTestsRow.holds Try.pinned (OpenSpec.ofChange contentTestsWrong)

/-- 'intrusionlaw44.ContentExact': WHATEVER THE INPUT: true; the input reads as it did. -/
def contentExactSpec : ChangeSpec := { name := "contentExact", fn := fun _ => fun
  | [d] => { results := [.lit (.bool true)], args := [d] }
  | _ => none }
def contentExactRow : OpenClaim := { program := "ytkmommchanjobaa", sum := "12b25d48c540a000ed94de343cc2bb9dfe79386b1cef7a5aeb82cd71b33eae42", func := "intrusion/intrusionlaw44.ContentExact", spec := "contentExact", unfollowed := true, recurses := true, apart := false }
def ContentExactSaid : Prop := contentExactRow.holds Try.pinned (OpenSpec.ofChange contentExactSpec)

/-- ITS FALSE NEIGHBOUR: 'it returns false'. Refute it at one input. -/
def contentExactWrong : ChangeSpec := { name := "contentExact", fn := fun _ => fun
  | [d] => { results := [.lit (.bool false)], args := [d] }
  | _ => none }
def ContentExactWrongFalsely : Prop := contentExactRow.holds Try.pinned (OpenSpec.ofChange contentExactWrong)

/-- 'intrusionlaw44.ContentSolves': WHATEVER THE INPUT: true; the input reads as it did. -/
def contentSolvesSpec : ChangeSpec := { name := "contentSolves", fn := fun _ => fun
  | [d1, d2, d3] => { results := [.lit (.bool true)], args := [d1, d2, d3] }
  | _ => none }
def contentSolvesRow : OpenClaim := { program := "ytkmommchanjobaa", sum := "12b25d48c540a000ed94de343cc2bb9dfe79386b1cef7a5aeb82cd71b33eae42", func := "intrusion/intrusionlaw44.ContentSolves", spec := "contentSolves", unfollowed := true, recurses := true, apart := false }
def ContentSolvesSaid : Prop := contentSolvesRow.holds Try.pinned (OpenSpec.ofChange contentSolvesSpec)

/-- ITS FALSE NEIGHBOUR: 'it returns false'. Refute it at one input. -/
def contentSolvesWrong : ChangeSpec := { name := "contentSolves", fn := fun _ => fun
  | [d1, d2, d3] => { results := [.lit (.bool false)], args := [d1, d2, d3] }
  | _ => none }
def ContentSolvesWrongFalsely : Prop := contentSolvesRow.holds Try.pinned (OpenSpec.ofChange contentSolvesWrong)

/-- 'intrusionlaw44.ContentBudgets': WHATEVER THE INPUT: true; the input reads as it did. -/
def contentBudgetsSpec : ChangeSpec := { name := "contentBudgets", fn := fun _ => fun
  | [d1, d2, d3] => { results := [.lit (.bool true)], args := [d1, d2, d3] }
  | _ => none }
def contentBudgetsRow : OpenClaim := { program := "ytkmommchanjobaa", sum := "12b25d48c540a000ed94de343cc2bb9dfe79386b1cef7a5aeb82cd71b33eae42", func := "intrusion/intrusionlaw44.ContentBudgets", spec := "contentBudgets", unfollowed := true, recurses := true, apart := false }
def ContentBudgetsSaid : Prop := contentBudgetsRow.holds Try.pinned (OpenSpec.ofChange contentBudgetsSpec)

/-- ITS FALSE NEIGHBOUR: 'it returns false'. Refute it at one input. -/
def contentBudgetsWrong : ChangeSpec := { name := "contentBudgets", fn := fun _ => fun
  | [d1, d2, d3] => { results := [.lit (.bool false)], args := [d1, d2, d3] }
  | _ => none }
def ContentBudgetsWrongFalsely : Prop := contentBudgetsRow.holds Try.pinned (OpenSpec.ofChange contentBudgetsWrong)

/- THE SECOND FORM. 'bulk': how many values and letters a reading holds, each counted each time it is reached (what is shared counts as often as it is met; a slice's spare places count too). A statement '..UptoSaid' is the law's where the arguments, and the package variables that the reading takes, are together of bulk at most 1048576: NARROWER than '..Said'. Prove '..Said' where nothing that the law and all that it calls make is longer than what came in: it says more and counts as full. Else prove '..UptoSaid'. A law counts once. -/
mutual
def uptoBulk {H : Type} : DataW H → Nat
  | .lit (.string bytes) => bytes.length + 1
  | .lit _ => 1
  | .nil => 1
  | .ptr d => uptoBulk d + 1
  | .slice elems spare => uptoBulkAll elems + uptoBulkAll spare + 1
  | .agg parts => uptoBulkAll parts + 1
  | .iface _ d => uptoBulk d + 1
  | .map entries => uptoBulkEntries entries + 1
  | .held _ => 1
def uptoBulkAll {H : Type} : List (DataW H) → Nat
  | [] => 0
  | d :: r => uptoBulk d + uptoBulkAll r
def uptoBulkEntries {H : Type} : List (Lit × DataW H) → Nat
  | [] => 0
  | x :: r => uptoBulkEntry x + uptoBulkEntries r
def uptoBulkEntry {H : Type} : Lit × DataW H → Nat
  | (.string bytes, d) => bytes.length + uptoBulk d + 1
  | (_, d) => uptoBulk d + 1
 end
def uptoSmall : (H : Type) → List (DataW H) → Bool := fun _ ds => decide (uptoBulkAll ds ≤ 1048576)
def OpenSpec.upto (s : _root_.Go.ChangeSpec) : _root_.Go.OpenSpec := { _root_.Go.OpenSpec.ofChange s with cond := some uptoSmall }

/-- 'intrusionlaw44.ContentPlaces', WHERE WHAT IT READS IS OF BULK AT MOST 1048576: true; the input reads as it did. -/
def contentPlacesUptoRow : OpenClaim := { program := "ytkmommchanjobaa", sum := "12b25d48c540a000ed94de343cc2bb9dfe79386b1cef7a5aeb82cd71b33eae42", func := "intrusion/intrusionlaw44.ContentPlaces", spec := "contentPlaces", unfollowed := true, recurses := true, apart := false, narrowed := true }
def ContentPlacesUptoSaid : Prop := contentPlacesUptoRow.holds Try.pinned (OpenSpec.upto contentPlacesSpec)

/-- 'intrusionlaw44.ContentTests', WHERE WHAT IT READS IS OF BULK AT MOST 1048576: true; the input reads as it did. -/
def contentTestsUptoRow : OpenClaim := { program := "ytkmommchanjobaa", sum := "12b25d48c540a000ed94de343cc2bb9dfe79386b1cef7a5aeb82cd71b33eae42", func := "intrusion/intrusionlaw44.ContentTests", spec := "contentTests", unfollowed := true, recurses := true, apart := false, narrowed := true }
def ContentTestsUptoSaid : Prop := contentTestsUptoRow.holds Try.pinned (OpenSpec.upto contentTestsSpec)

/-- 'intrusionlaw44.ContentExact', WHERE WHAT IT READS IS OF BULK AT MOST 1048576: true; the input reads as it did. -/
def contentExactUptoRow : OpenClaim := { program := "ytkmommchanjobaa", sum := "12b25d48c540a000ed94de343cc2bb9dfe79386b1cef7a5aeb82cd71b33eae42", func := "intrusion/intrusionlaw44.ContentExact", spec := "contentExact", unfollowed := true, recurses := true, apart := false, narrowed := true }
def ContentExactUptoSaid : Prop := contentExactUptoRow.holds Try.pinned (OpenSpec.upto contentExactSpec)

/-- 'intrusionlaw44.ContentSolves', WHERE WHAT IT READS IS OF BULK AT MOST 1048576: true; the input reads as it did. -/
def contentSolvesUptoRow : OpenClaim := { program := "ytkmommchanjobaa", sum := "12b25d48c540a000ed94de343cc2bb9dfe79386b1cef7a5aeb82cd71b33eae42", func := "intrusion/intrusionlaw44.ContentSolves", spec := "contentSolves", unfollowed := true, recurses := true, apart := false, narrowed := true }
def ContentSolvesUptoSaid : Prop := contentSolvesUptoRow.holds Try.pinned (OpenSpec.upto contentSolvesSpec)

/-- 'intrusionlaw44.ContentBudgets', WHERE WHAT IT READS IS OF BULK AT MOST 1048576: true; the input reads as it did. -/
def contentBudgetsUptoRow : OpenClaim := { program := "ytkmommchanjobaa", sum := "12b25d48c540a000ed94de343cc2bb9dfe79386b1cef7a5aeb82cd71b33eae42", func := "intrusion/intrusionlaw44.ContentBudgets", spec := "contentBudgets", unfollowed := true, recurses := true, apart := false, narrowed := true }
def ContentBudgetsUptoSaid : Prop := contentBudgetsUptoRow.holds Try.pinned (OpenSpec.upto contentBudgetsSpec)

end Rows
end Go.Proofs.Ytkmommchanjobaa
