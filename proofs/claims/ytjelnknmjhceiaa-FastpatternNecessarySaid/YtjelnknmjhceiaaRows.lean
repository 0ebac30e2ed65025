/-
  No cell of these rows narrows 'for every input' (looked for: loops, veiled, ifaces, maps, wideKeys, modest, calm, conditions, laid).
  DERIVED. THE GIVEN ROWS OF THIS SEAT. 6 by the template 'for every input the law returns true; each argument reads behind the call as it read before'; 0 by the template 'total and deterministic' (their statements: YtjelnknmjhceiaaTotals.lean).
  GIVEN WITH THE SEED: the statements are not yours to turn. If you find one false, say at which input.
  Laid BY PROGRAM, IN A SANDBOX (cutbox-rows.mjs): the forced cells as the released guide's own fill.sh prints them over the translation 7133ba49ce116a31… (all of the seat's roots in one cut). By AI agents, Wed Nov 11 2026. No macro, syntax, notation, axiom, sorry.
-/
import Derived.Test.YtjelnknmjhceiaaChecked
import GoSem.Claim
import GoSem.ClaimJoined
import GoSem.ClaimMapViews
import Derived.JoinedTies
import Derived.KernelRfl
namespace Go.Proofs.Ytjelnknmjhceiaa
/- THE CELL 'sum', in the pinned program and in every row, IS THE sha256 OF THE DUMP (.gsa) THAT YtjelnknmjhceiaaProg.lean LOADS. Nothing in Lean hashes anything: it is a label: what it is worth is what the hold of that sum in a sandbox is worth. -/
noncomputable def Try.pinned : Pinned := { name := "ytjelnknmjhceiaa", sum := "7133ba49ce116a3109083fd8ef24f62bda37e15510ec31e69f9cb2332748d9a3", checked := Try.checked }
namespace Rows
def none {H : Type} : Left H := { results := [], args := [] }

/-- 'intrusionlaw46.FastpatternScores': WHATEVER THE INPUT: true; the input reads as it did. -/
def fastpatternScoresSpec : ChangeSpec := { name := "fastpatternScores", fn := fun _ => fun
  | [d] => { results := [.lit (.bool true)], args := [d] }
  | _ => none }
def fastpatternScoresRow : OpenClaim := { program := "ytjelnknmjhceiaa", sum := "7133ba49ce116a3109083fd8ef24f62bda37e15510ec31e69f9cb2332748d9a3", func := "intrusion/intrusionlaw46.FastpatternScores", spec := "fastpatternScores", unfollowed := true, recurses := true, apart := false }
def FastpatternScoresSaid : Prop := fastpatternScoresRow.holds Try.pinned (OpenSpec.ofChange fastpatternScoresSpec)

/-- ITS FALSE NEIGHBOUR: 'it returns false'. Refute it at one input. -/
def fastpatternScoresWrong : ChangeSpec := { name := "fastpatternScores", fn := fun _ => fun
  | [d] => { results := [.lit (.bool false)], args := [d] }
  | _ => none }
def FastpatternScoresWrongFalsely : Prop := fastpatternScoresRow.holds Try.pinned (OpenSpec.ofChange fastpatternScoresWrong)

/-- 'intrusionlaw46.FastpatternChooses': WHATEVER THE INPUT: true; the input reads as it did. -/
def fastpatternChoosesSpec : ChangeSpec := { name := "fastpatternChooses", fn := fun _ => fun
  | [d] => { results := [.lit (.bool true)], args := [d] }
  | _ => none }
def fastpatternChoosesRow : OpenClaim := { program := "ytjelnknmjhceiaa", sum := "7133ba49ce116a3109083fd8ef24f62bda37e15510ec31e69f9cb2332748d9a3", func := "intrusion/intrusionlaw46.FastpatternChooses", spec := "fastpatternChooses", unfollowed := true, recurses := true, apart := false }
def FastpatternChoosesSaid : Prop := fastpatternChoosesRow.holds Try.pinned (OpenSpec.ofChange fastpatternChoosesSpec)

/-- ITS FALSE NEIGHBOUR: 'it returns false'. Refute it at one input. -/
def fastpatternChoosesWrong : ChangeSpec := { name := "fastpatternChooses", fn := fun _ => fun
  | [d] => { results := [.lit (.bool false)], args := [d] }
  | _ => none }
def FastpatternChoosesWrongFalsely : Prop := fastpatternChoosesRow.holds Try.pinned (OpenSpec.ofChange fastpatternChoosesWrong)

/-- 'intrusionlaw46.FastpatternGroups': WHATEVER THE INPUT: true; the input reads as it did. -/
def fastpatternGroupsSpec : ChangeSpec := { name := "fastpatternGroups", fn := fun _ => fun
  | [d] => { results := [.lit (.bool true)], args := [d] }
  | _ => none }
def fastpatternGroupsRow : OpenClaim := { program := "ytjelnknmjhceiaa", sum := "7133ba49ce116a3109083fd8ef24f62bda37e15510ec31e69f9cb2332748d9a3", func := "intrusion/intrusionlaw46.FastpatternGroups", spec := "fastpatternGroups", unfollowed := true, recurses := true, apart := false }
def FastpatternGroupsSaid : Prop := fastpatternGroupsRow.holds Try.pinned (OpenSpec.ofChange fastpatternGroupsSpec)

/-- ITS FALSE NEIGHBOUR: 'it returns false'. Refute it at one input. -/
def fastpatternGroupsWrong : ChangeSpec := { name := "fastpatternGroups", fn := fun _ => fun
  | [d] => { results := [.lit (.bool false)], args := [d] }
  | _ => none }
def FastpatternGroupsWrongFalsely : Prop := fastpatternGroupsRow.holds Try.pinned (OpenSpec.ofChange fastpatternGroupsWrong)

/-- 'intrusionlaw46.FastpatternOnce': WHATEVER THE INPUT: true; the input reads as it did. -/
def fastpatternOnceSpec : ChangeSpec := { name := "fastpatternOnce", fn := fun _ => fun
  | [d] => { results := [.lit (.bool true)], args := [d] }
  | _ => none }
def fastpatternOnceRow : OpenClaim := { program := "ytjelnknmjhceiaa", sum := "7133ba49ce116a3109083fd8ef24f62bda37e15510ec31e69f9cb2332748d9a3", func := "intrusion/intrusionlaw46.FastpatternOnce", spec := "fastpatternOnce", unfollowed := true, recurses := true, apart := false }
def FastpatternOnceSaid : Prop := fastpatternOnceRow.holds Try.pinned (OpenSpec.ofChange fastpatternOnceSpec)

/-- ITS FALSE NEIGHBOUR: 'it returns false'. Refute it at one input. -/
def fastpatternOnceWrong : ChangeSpec := { name := "fastpatternOnce", fn := fun _ => fun
  | [d] => { results := [.lit (.bool false)], args := [d] }
  | _ => none }
def FastpatternOnceWrongFalsely : Prop := fastpatternOnceRow.holds Try.pinned (OpenSpec.ofChange fastpatternOnceWrong)

/-- 'intrusionlaw46.FastpatternBest': WHATEVER THE INPUT: true; the input reads as it did. -/
def fastpatternBestSpec : ChangeSpec := { name := "fastpatternBest", fn := fun _ => fun
  | [d] => { results := [.lit (.bool true)], args := [d] }
  | _ => none }
def fastpatternBestRow : OpenClaim := { program := "ytjelnknmjhceiaa", sum := "7133ba49ce116a3109083fd8ef24f62bda37e15510ec31e69f9cb2332748d9a3", func := "intrusion/intrusionlaw46.FastpatternBest", spec := "fastpatternBest", unfollowed := true, recurses := true, apart := false }
def FastpatternBestSaid : Prop := fastpatternBestRow.holds Try.pinned (OpenSpec.ofChange fastpatternBestSpec)

/-- ITS FALSE NEIGHBOUR: 'it returns false'. Refute it at one input. -/
def fastpatternBestWrong : ChangeSpec := { name := "fastpatternBest", fn := fun _ => fun
  | [d] => { results := [.lit (.bool false)], args := [d] }
  | _ => none }
def FastpatternBestWrongFalsely : Prop := fastpatternBestRow.holds Try.pinned (OpenSpec.ofChange fastpatternBestWrong)

/-- 'intrusionlaw46.FastpatternNecessary': WHATEVER THE INPUT: true; the input reads as it did. -/
def fastpatternNecessarySpec : ChangeSpec := { name := "fastpatternNecessary", fn := fun _ => fun
  | [d1, d2] => { results := [.lit (.bool true)], args := [d1, d2] }
  | _ => none }
def fastpatternNecessaryRow : OpenClaim := { program := "ytjelnknmjhceiaa", sum := "7133ba49ce116a3109083fd8ef24f62bda37e15510ec31e69f9cb2332748d9a3", func := "intrusion/intrusionlaw46.FastpatternNecessary", spec := "fastpatternNecessary", unfollowed := true, recurses := true, apart := false }
def FastpatternNecessarySaid : Prop := fastpatternNecessaryRow.holds Try.pinned (OpenSpec.ofChange fastpatternNecessarySpec)

/-- ITS FALSE NEIGHBOUR: 'it returns false'. Refute it at one input. -/
def fastpatternNecessaryWrong : ChangeSpec := { name := "fastpatternNecessary", fn := fun _ => fun
  | [d1, d2] => { results := [.lit (.bool false)], args := [d1, d2] }
  | _ => none }
def FastpatternNecessaryWrongFalsely : Prop := fastpatternNecessaryRow.holds Try.pinned (OpenSpec.ofChange fastpatternNecessaryWrong)

/- THE SECOND FORM. 'bulk': how many values and letters a reading holds, each counted each time it is reached (what is shared counts as often as it is met; a slice's spare places count too). A statement '..UptoSaid' is the law's where the arguments, and the package variables that the reading takes, are together of bulk at most 1048576: NARROWER than '..Said'. Prove '..Said' where nothing that the law and all that it calls make is longer than what came in: it says more and counts as full. Else prove '..UptoSaid'. A law counts once. -/
mutual
def uptoBulk {H : Type} : DataW H → Nat
  | .lit (.string bytes) => bytes.length + 1
  | .lit _ => 1
  | .nil => 1
  | .ptr d => uptoBulk d + 1
  | .slice elems spare => uptoBulkAll elems + uptoBulkAll spare + 1
  | .agg parts => uptoBulkAll parts + 1
  | .iface _ d => uptoBulk d + 1
  | .map entries => uptoBulkEntries entries + 1
  | .held _ => 1
def uptoBulkAll {H : Type} : List (DataW H) → Nat
  | [] => 0
  | d :: r => uptoBulk d + uptoBulkAll r
def uptoBulkEntries {H : Type} : List (Lit × DataW H) → Nat
  | [] => 0
  | x :: r => uptoBulkEntry x + uptoBulkEntries r
def uptoBulkEntry {H : Type} : Lit × DataW H → Nat
  | (.string bytes, d) => bytes.length + uptoBulk d + 1
  | (_, d) => uptoBulk d + 1
 end
def uptoSmall : (H : Type) → List (DataW H) → Bool := fun _ ds => decide (uptoBulkAll ds ≤ 1048576)
def OpenSpec.upto (s : _root_.Go.ChangeSpec) : _root_.Go.OpenSpec := { _root_.Go.OpenSpec.ofChange s with cond := some uptoSmall }

/-- 'intrusionlaw46.FastpatternScores', WHERE WHAT IT READS IS OF BULK AT MOST 1048576: true; the input reads as it did. -/
def fastpatternScoresUptoRow : OpenClaim := { program := "ytjelnknmjhceiaa", sum := "7133ba49ce116a3109083fd8ef24f62bda37e15510ec31e69f9cb2332748d9a3", func := "intrusion/intrusionlaw46.FastpatternScores", spec := "fastpatternScores", unfollowed := true, recurses := true, apart := false, narrowed := true }
def FastpatternScoresUptoSaid : Prop := fastpatternScoresUptoRow.holds Try.pinned (OpenSpec.upto fastpatternScoresSpec)

/-- 'intrusionlaw46.FastpatternChooses', WHERE WHAT IT READS IS OF BULK AT MOST 1048576: true; the input reads as it did. -/
def fastpatternChoosesUptoRow : OpenClaim := { program := "ytjelnknmjhceiaa", sum := "7133ba49ce116a3109083fd8ef24f62bda37e15510ec31e69f9cb2332748d9a3", func := "intrusion/intrusionlaw46.FastpatternChooses", spec := "fastpatternChooses", unfollowed := true, recurses := true, apart := false, narrowed := true }
def FastpatternChoosesUptoSaid : Prop := fastpatternChoosesUptoRow.holds Try.pinned (OpenSpec.upto fastpatternChoosesSpec)

/-- 'intrusionlaw46.FastpatternGroups', WHERE WHAT IT READS IS OF BULK AT MOST 1048576: true; the input reads as it did. -/
def fastpatternGroupsUptoRow : OpenClaim := { program := "ytjelnknmjhceiaa", sum := "7133ba49ce116a3109083fd8ef24f62bda37e15510ec31e69f9cb2332748d9a3", func := "intrusion/intrusionlaw46.FastpatternGroups", spec := "fastpatternGroups", unfollowed := true, recurses := true, apart := false, narrowed := true }
def FastpatternGroupsUptoSaid : Prop := fastpatternGroupsUptoRow.holds Try.pinned (OpenSpec.upto fastpatternGroupsSpec)

/-- 'intrusionlaw46.FastpatternOnce', WHERE WHAT IT READS IS OF BULK AT MOST 1048576: true; the input reads as it did. -/
def fastpatternOnceUptoRow : OpenClaim := { program := "ytjelnknmjhceiaa", sum := "7133ba49ce116a3109083fd8ef24f62bda37e15510ec31e69f9cb2332748d9a3", func := "intrusion/intrusionlaw46.FastpatternOnce", spec := "fastpatternOnce", unfollowed := true, recurses := true, apart := false, narrowed := true }
def FastpatternOnceUptoSaid : Prop := fastpatternOnceUptoRow.holds Try.pinned (OpenSpec.upto fastpatternOnceSpec)

/-- 'intrusionlaw46.FastpatternBest', WHERE WHAT IT READS IS OF BULK AT MOST 1048576: true; the input reads as it did. -/
def fastpatternBestUptoRow : OpenClaim := { program := "ytjelnknmjhceiaa", sum := "7133ba49ce116a3109083fd8ef24f62bda37e15510ec31e69f9cb2332748d9a3", func := "intrusion/intrusionlaw46.FastpatternBest", spec := "fastpatternBest", unfollowed := true, recurses := true, apart := false, narrowed := true }
def FastpatternBestUptoSaid : Prop := fastpatternBestUptoRow.holds Try.pinned (OpenSpec.upto fastpatternBestSpec)

/-- 'intrusionlaw46.FastpatternNecessary', WHERE WHAT IT READS IS OF BULK AT MOST 1048576: true; the input reads as it did. -/
def fastpatternNecessaryUptoRow : OpenClaim := { program := "ytjelnknmjhceiaa", sum := "7133ba49ce116a3109083fd8ef24f62bda37e15510ec31e69f9cb2332748d9a3", func := "intrusion/intrusionlaw46.FastpatternNecessary", spec := "fastpatternNecessary", unfollowed := true, recurses := true, apart := false, narrowed := true }
def FastpatternNecessaryUptoSaid : Prop := fastpatternNecessaryUptoRow.holds Try.pinned (OpenSpec.upto fastpatternNecessarySpec)

end Rows
end Go.Proofs.Ytjelnknmjhceiaa
