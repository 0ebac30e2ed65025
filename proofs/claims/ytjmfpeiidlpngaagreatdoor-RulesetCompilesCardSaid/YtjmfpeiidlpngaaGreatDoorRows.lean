/-
  NARROWER THAN 'FOR EVERY INPUT', by the rows' own cells (each row's printed sentence says how): RulesetScans: laid · RulesetCompiles: laid · RulesetSelects: laid · RulesetSuperset: laid.
  DERIVED. THE GIVEN ROWS OF THIS SEAT. 4 by the template 'for every input the law returns true; each argument reads behind the call as it read before'; 0 by the template 'total and deterministic' (their statements: YtjmfpeiidlpngaaGreatDoorTotals.lean).
  GIVEN WITH THE SEED: the statements are not yours to turn. If you find one false, say at which input.
  Laid BY PROGRAM, IN A SANDBOX (cutbox-rows.mjs): the forced cells as the released guide's own fill.sh prints them over the translation be4ed125eb2054c2… (all of the seat's roots in one cut). By AI agents, Wed Nov 11 2026. No macro, syntax, notation, axiom, sorry.
-/
import Derived.Test.YtjmfpeiidlpngaaGreatDoorChecked
import GoSem.PinnedTables
import GoSem.Claim
import GoSem.ClaimJoined
import GoSem.ClaimMapViews
import Derived.JoinedTies
import Derived.KernelRfl
namespace Go.Proofs.YtjmfpeiidlpngaaGreatDoor
/- THE CELL 'sum', in the pinned program and in every row, IS THE sha256 OF THE DUMP (.gsa) THAT YtjmfpeiidlpngaaGreatDoorProg.lean LOADS. Nothing in Lean hashes anything: it is a label: what it is worth is what the hold of that sum in a sandbox is worth. -/
noncomputable def Tryz.pinned : Pinned := { name := "ytjmfpeiidlpngaagreatdoor", sum := "be4ed125eb2054c24c983c3da688d632a8c194a8e54b06a55a836fb91cbd4330", checked := Tryz.checked }
namespace Rows
def none {H : Type} : Left H := { results := [], args := [] }

/- WHAT THE LISTED PACKAGE-LEVEL VARIABLES READ AS WHEN THE CALL BEGINS. Each datum BY PROGRAM (the guide's laid-datum.mjs) off the statement by which the dump's own 'gosem.cut.vars' lays the variable. In a bare row this is a premise. The card (YtjmfpeiidlpngaaGreatDoorCards.lean) ties it to the program's text. -/
def laid_unicode_utf8_acceptRanges {H : Type} : DataW H := .agg [.agg [.lit (.int .u8 128), .lit (.int .u8 191)], .agg [.lit (.int .u8 160), .lit (.int .u8 191)], .agg [.lit (.int .u8 128), .lit (.int .u8 159)], .agg [.lit (.int .u8 144), .lit (.int .u8 191)], .agg [.lit (.int .u8 128), .lit (.int .u8 143)], .agg [.lit (.int .u8 0), .lit (.int .u8 0)], .agg [.lit (.int .u8 0), .lit (.int .u8 0)], .agg [.lit (.int .u8 0), .lit (.int .u8 0)], .agg [.lit (.int .u8 0), .lit (.int .u8 0)], .agg [.lit (.int .u8 0), .lit (.int .u8 0)], .agg [.lit (.int .u8 0), .lit (.int .u8 0)], .agg [.lit (.int .u8 0), .lit (.int .u8 0)], .agg [.lit (.int .u8 0), .lit (.int .u8 0)], .agg [.lit (.int .u8 0), .lit (.int .u8 0)], .agg [.lit (.int .u8 0), .lit (.int .u8 0)], .agg [.lit (.int .u8 0), .lit (.int .u8 0)]]
/-- One of Go's own tables, pinned by name: the form's constant. -/
def laid_unicode_utf8_first : DataW Unit := Go.Pinned.utf8First

/-- 'intrusionlaw47.RulesetScans': WHATEVER THE INPUT: true; the input reads as it did. -/
def rulesetScansSpec : ChangeSpec := { name := "rulesetScans", fn := fun _ => fun
  | [d1, d2, d3] => { results := [.lit (.bool true)], args := [d1, d2, d3] }
  | _ => none }
def rulesetScansRow : OpenClaim := { program := "ytjmfpeiidlpngaagreatdoor", sum := "be4ed125eb2054c24c983c3da688d632a8c194a8e54b06a55a836fb91cbd4330", func := "intrusion/intrusionlaw47.RulesetScans", spec := "rulesetScans", inPlace := ["internal/bytealg.IndexByteString", "internal/bytealg.CountString", "internal/bytealg.IndexString", "internal/abi.NoEscape", "internal/bytealg.MakeNoZero"], unfollowed := true, recurses := true, named := ["unicode/utf8.first", "unicode/utf8.acceptRanges", "internal/bytealg.MaxLen"], apart := false, laid := [("unicode/utf8.acceptRanges", laid_unicode_utf8_acceptRanges), ("unicode/utf8.first", laid_unicode_utf8_first)] }
def RulesetScansSaid : Prop := rulesetScansRow.holds Tryz.pinned (OpenSpec.ofChange rulesetScansSpec)

/-- ITS FALSE NEIGHBOUR: 'it returns false'. Refute it at one input. -/
def rulesetScansWrong : ChangeSpec := { name := "rulesetScans", fn := fun _ => fun
  | [d1, d2, d3] => { results := [.lit (.bool false)], args := [d1, d2, d3] }
  | _ => none }
def RulesetScansWrongFalsely : Prop := rulesetScansRow.holds Tryz.pinned (OpenSpec.ofChange rulesetScansWrong)

/-- 'intrusionlaw47.RulesetCompiles': WHATEVER THE INPUT: true; the input reads as it did. -/
def rulesetCompilesSpec : ChangeSpec := { name := "rulesetCompiles", fn := fun _ => fun
  | [d1, d2] => { results := [.lit (.bool true)], args := [d1, d2] }
  | _ => none }
def rulesetCompilesRow : OpenClaim := { program := "ytjmfpeiidlpngaagreatdoor", sum := "be4ed125eb2054c24c983c3da688d632a8c194a8e54b06a55a836fb91cbd4330", func := "intrusion/intrusionlaw47.RulesetCompiles", spec := "rulesetCompiles", inPlace := ["internal/bytealg.IndexByteString", "internal/bytealg.CountString", "internal/bytealg.IndexString", "internal/abi.NoEscape", "internal/bytealg.MakeNoZero"], unfollowed := true, recurses := true, named := ["unicode/utf8.first", "unicode/utf8.acceptRanges", "internal/bytealg.MaxLen"], apart := false, laid := [("unicode/utf8.acceptRanges", laid_unicode_utf8_acceptRanges), ("unicode/utf8.first", laid_unicode_utf8_first)] }
def RulesetCompilesSaid : Prop := rulesetCompilesRow.holds Tryz.pinned (OpenSpec.ofChange rulesetCompilesSpec)

/-- ITS FALSE NEIGHBOUR: 'it returns false'. Refute it at one input. -/
def rulesetCompilesWrong : ChangeSpec := { name := "rulesetCompiles", fn := fun _ => fun
  | [d1, d2] => { results := [.lit (.bool false)], args := [d1, d2] }
  | _ => none }
def RulesetCompilesWrongFalsely : Prop := rulesetCompilesRow.holds Tryz.pinned (OpenSpec.ofChange rulesetCompilesWrong)

/-- 'intrusionlaw47.RulesetSelects': WHATEVER THE INPUT: true; the input reads as it did. -/
def rulesetSelectsSpec : ChangeSpec := { name := "rulesetSelects", fn := fun _ => fun
  | [d1, d2, d3] => { results := [.lit (.bool true)], args := [d1, d2, d3] }
  | _ => none }
def rulesetSelectsRow : OpenClaim := { program := "ytjmfpeiidlpngaagreatdoor", sum := "be4ed125eb2054c24c983c3da688d632a8c194a8e54b06a55a836fb91cbd4330", func := "intrusion/intrusionlaw47.RulesetSelects", spec := "rulesetSelects", inPlace := ["internal/bytealg.IndexByteString", "internal/bytealg.CountString", "internal/bytealg.IndexString", "internal/abi.NoEscape", "internal/bytealg.MakeNoZero"], unfollowed := true, recurses := true, named := ["unicode/utf8.first", "unicode/utf8.acceptRanges", "internal/bytealg.MaxLen"], apart := false, laid := [("unicode/utf8.acceptRanges", laid_unicode_utf8_acceptRanges), ("unicode/utf8.first", laid_unicode_utf8_first)] }
def RulesetSelectsSaid : Prop := rulesetSelectsRow.holds Tryz.pinned (OpenSpec.ofChange rulesetSelectsSpec)

/-- ITS FALSE NEIGHBOUR: 'it returns false'. Refute it at one input. -/
def rulesetSelectsWrong : ChangeSpec := { name := "rulesetSelects", fn := fun _ => fun
  | [d1, d2, d3] => { results := [.lit (.bool false)], args := [d1, d2, d3] }
  | _ => none }
def RulesetSelectsWrongFalsely : Prop := rulesetSelectsRow.holds Tryz.pinned (OpenSpec.ofChange rulesetSelectsWrong)

/-- 'intrusionlaw47.RulesetSuperset': WHATEVER THE INPUT: true; the input reads as it did. -/
def rulesetSupersetSpec : ChangeSpec := { name := "rulesetSuperset", fn := fun _ => fun
  | [d1, d2, d3] => { results := [.lit (.bool true)], args := [d1, d2, d3] }
  | _ => none }
def rulesetSupersetRow : OpenClaim := { program := "ytjmfpeiidlpngaagreatdoor", sum := "be4ed125eb2054c24c983c3da688d632a8c194a8e54b06a55a836fb91cbd4330", func := "intrusion/intrusionlaw47.RulesetSuperset", spec := "rulesetSuperset", inPlace := ["internal/bytealg.IndexByteString", "internal/bytealg.CountString", "internal/bytealg.IndexString", "internal/abi.NoEscape", "internal/bytealg.MakeNoZero"], unfollowed := true, recurses := true, named := ["unicode/utf8.first", "unicode/utf8.acceptRanges", "internal/bytealg.MaxLen"], apart := false, laid := [("unicode/utf8.acceptRanges", laid_unicode_utf8_acceptRanges), ("unicode/utf8.first", laid_unicode_utf8_first)] }
def RulesetSupersetSaid : Prop := rulesetSupersetRow.holds Tryz.pinned (OpenSpec.ofChange rulesetSupersetSpec)

/-- ITS FALSE NEIGHBOUR: 'it returns false'. Refute it at one input. -/
def rulesetSupersetWrong : ChangeSpec := { name := "rulesetSuperset", fn := fun _ => fun
  | [d1, d2, d3] => { results := [.lit (.bool false)], args := [d1, d2, d3] }
  | _ => none }
def RulesetSupersetWrongFalsely : Prop := rulesetSupersetRow.holds Tryz.pinned (OpenSpec.ofChange rulesetSupersetWrong)

/- THE SECOND FORM. 'bulk': how many values and letters a reading holds, each counted each time it is reached (what is shared counts as often as it is met; a slice's spare places count too). A statement '..UptoSaid' is the law's where the arguments, and the package variables that the reading takes, are together of bulk at most 1048576: NARROWER than '..Said'. Prove '..Said' where nothing that the law and all that it calls make is longer than what came in: it says more and counts as full. Else prove '..UptoSaid'. A law counts once. -/
mutual
def uptoBulk {H : Type} : DataW H → Nat
  | .lit (.string bytes) => bytes.length + 1
  | .lit _ => 1
  | .nil => 1
  | .ptr d => uptoBulk d + 1
  | .slice elems spare => uptoBulkAll elems + uptoBulkAll spare + 1
  | .agg parts => uptoBulkAll parts + 1
  | .iface _ d => uptoBulk d + 1
  | .map entries => uptoBulkEntries entries + 1
  | .held _ => 1
def uptoBulkAll {H : Type} : List (DataW H) → Nat
  | [] => 0
  | d :: r => uptoBulk d + uptoBulkAll r
def uptoBulkEntries {H : Type} : List (Lit × DataW H) → Nat
  | [] => 0
  | x :: r => uptoBulkEntry x + uptoBulkEntries r
def uptoBulkEntry {H : Type} : Lit × DataW H → Nat
  | (.string bytes, d) => bytes.length + uptoBulk d + 1
  | (_, d) => uptoBulk d + 1
 end
def uptoSmall : (H : Type) → List (DataW H) → Bool := fun _ ds => decide (uptoBulkAll ds ≤ 1048576)
def OpenSpec.upto (s : _root_.Go.ChangeSpec) : _root_.Go.OpenSpec := { _root_.Go.OpenSpec.ofChange s with cond := some uptoSmall }

/-- 'intrusionlaw47.RulesetScans', WHERE WHAT IT READS IS OF BULK AT MOST 1048576: true; the input reads as it did. -/
def rulesetScansUptoRow : OpenClaim := { program := "ytjmfpeiidlpngaagreatdoor", sum := "be4ed125eb2054c24c983c3da688d632a8c194a8e54b06a55a836fb91cbd4330", func := "intrusion/intrusionlaw47.RulesetScans", spec := "rulesetScans", inPlace := ["internal/bytealg.IndexByteString", "internal/bytealg.CountString", "internal/bytealg.IndexString", "internal/abi.NoEscape", "internal/bytealg.MakeNoZero"], unfollowed := true, recurses := true, named := ["unicode/utf8.first", "unicode/utf8.acceptRanges", "internal/bytealg.MaxLen"], apart := false, laid := [("unicode/utf8.acceptRanges", laid_unicode_utf8_acceptRanges), ("unicode/utf8.first", laid_unicode_utf8_first)], narrowed := true }
def RulesetScansUptoSaid : Prop := rulesetScansUptoRow.holds Tryz.pinned (OpenSpec.upto rulesetScansSpec)

/-- 'intrusionlaw47.RulesetCompiles', WHERE WHAT IT READS IS OF BULK AT MOST 1048576: true; the input reads as it did. -/
def rulesetCompilesUptoRow : OpenClaim := { program := "ytjmfpeiidlpngaagreatdoor", sum := "be4ed125eb2054c24c983c3da688d632a8c194a8e54b06a55a836fb91cbd4330", func := "intrusion/intrusionlaw47.RulesetCompiles", spec := "rulesetCompiles", inPlace := ["internal/bytealg.IndexByteString", "internal/bytealg.CountString", "internal/bytealg.IndexString", "internal/abi.NoEscape", "internal/bytealg.MakeNoZero"], unfollowed := true, recurses := true, named := ["unicode/utf8.first", "unicode/utf8.acceptRanges", "internal/bytealg.MaxLen"], apart := false, laid := [("unicode/utf8.acceptRanges", laid_unicode_utf8_acceptRanges), ("unicode/utf8.first", laid_unicode_utf8_first)], narrowed := true }
def RulesetCompilesUptoSaid : Prop := rulesetCompilesUptoRow.holds Tryz.pinned (OpenSpec.upto rulesetCompilesSpec)

/-- 'intrusionlaw47.RulesetSelects', WHERE WHAT IT READS IS OF BULK AT MOST 1048576: true; the input reads as it did. -/
def rulesetSelectsUptoRow : OpenClaim := { program := "ytjmfpeiidlpngaagreatdoor", sum := "be4ed125eb2054c24c983c3da688d632a8c194a8e54b06a55a836fb91cbd4330", func := "intrusion/intrusionlaw47.RulesetSelects", spec := "rulesetSelects", inPlace := ["internal/bytealg.IndexByteString", "internal/bytealg.CountString", "internal/bytealg.IndexString", "internal/abi.NoEscape", "internal/bytealg.MakeNoZero"], unfollowed := true, recurses := true, named := ["unicode/utf8.first", "unicode/utf8.acceptRanges", "internal/bytealg.MaxLen"], apart := false, laid := [("unicode/utf8.acceptRanges", laid_unicode_utf8_acceptRanges), ("unicode/utf8.first", laid_unicode_utf8_first)], narrowed := true }
def RulesetSelectsUptoSaid : Prop := rulesetSelectsUptoRow.holds Tryz.pinned (OpenSpec.upto rulesetSelectsSpec)

/-- 'intrusionlaw47.RulesetSuperset', WHERE WHAT IT READS IS OF BULK AT MOST 1048576: true; the input reads as it did. -/
def rulesetSupersetUptoRow : OpenClaim := { program := "ytjmfpeiidlpngaagreatdoor", sum := "be4ed125eb2054c24c983c3da688d632a8c194a8e54b06a55a836fb91cbd4330", func := "intrusion/intrusionlaw47.RulesetSuperset", spec := "rulesetSuperset", inPlace := ["internal/bytealg.IndexByteString", "internal/bytealg.CountString", "internal/bytealg.IndexString", "internal/abi.NoEscape", "internal/bytealg.MakeNoZero"], unfollowed := true, recurses := true, named := ["unicode/utf8.first", "unicode/utf8.acceptRanges", "internal/bytealg.MaxLen"], apart := false, laid := [("unicode/utf8.acceptRanges", laid_unicode_utf8_acceptRanges), ("unicode/utf8.first", laid_unicode_utf8_first)], narrowed := true }
def RulesetSupersetUptoSaid : Prop := rulesetSupersetUptoRow.holds Tryz.pinned (OpenSpec.upto rulesetSupersetSpec)

end Rows
end Go.Proofs.YtjmfpeiidlpngaaGreatDoor
