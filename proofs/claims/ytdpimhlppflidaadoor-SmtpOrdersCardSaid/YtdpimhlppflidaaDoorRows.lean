/-
  NARROWER THAN 'FOR EVERY INPUT', by the rows' own cells (each row's printed sentence says how): SmtpFeeds: laid · SmtpLists: laid · SmtpPending: laid · SmtpOrders: laid · SmtpMails: laid · SmtpCovered: laid.
  DERIVED. THE GIVEN ROWS OF THIS SEAT. 6 by the template 'for every input the law returns true; each argument reads behind the call as it read before'; 0 by the template 'total and deterministic' (their statements: YtdpimhlppflidaaDoorTotals.lean).
  GIVEN WITH THE SEED: the statements are not yours to turn. If you find one false, say at which input.
  Laid BY PROGRAM, IN A SANDBOX (cutbox-rows.mjs): the forced cells as the released guide's own fill.sh prints them over the translation 04b143b73915b325… (all of the seat's roots in one cut). By AI agents, Wed Nov 11 2026. No macro, syntax, notation, axiom, sorry.
-/
import Derived.Test.YtdpimhlppflidaaDoorChecked
import GoSem.PinnedTables
import GoSem.Claim
import GoSem.ClaimJoined
import GoSem.ClaimMapViews
import Derived.JoinedTies
import Derived.KernelRfl
namespace Go.Proofs.YtdpimhlppflidaaDoor
/- THE CELL 'sum', in the pinned program and in every row, IS THE sha256 OF THE DUMP (.gsa) THAT YtdpimhlppflidaaDoorProg.lean LOADS. Nothing in Lean hashes anything: it is a label: what it is worth is what the hold of that sum in a sandbox is worth. -/
noncomputable def Tryd.pinned : Pinned := { name := "ytdpimhlppflidaadoor", sum := "04b143b73915b3258efb743183c3a8c5d520723f84d17495f1c3baff58d99e55", checked := Tryd.checked }
namespace Rows
def none {H : Type} : Left H := { results := [], args := [] }

/- WHAT THE LISTED PACKAGE-LEVEL VARIABLES READ AS WHEN THE CALL BEGINS. Each datum BY PROGRAM (the guide's laid-datum.mjs) off the statement by which the dump's own 'gosem.cut.vars' lays the variable. In a bare row this is a premise. The card (YtdpimhlppflidaaDoorCards.lean) ties it to the program's text. -/
def laid_unicode_utf8_acceptRanges {H : Type} : DataW H := .agg [.agg [.lit (.int .u8 128), .lit (.int .u8 191)], .agg [.lit (.int .u8 160), .lit (.int .u8 191)], .agg [.lit (.int .u8 128), .lit (.int .u8 159)], .agg [.lit (.int .u8 144), .lit (.int .u8 191)], .agg [.lit (.int .u8 128), .lit (.int .u8 143)], .agg [.lit (.int .u8 0), .lit (.int .u8 0)], .agg [.lit (.int .u8 0), .lit (.int .u8 0)], .agg [.lit (.int .u8 0), .lit (.int .u8 0)], .agg [.lit (.int .u8 0), .lit (.int .u8 0)], .agg [.lit (.int .u8 0), .lit (.int .u8 0)], .agg [.lit (.int .u8 0), .lit (.int .u8 0)], .agg [.lit (.int .u8 0), .lit (.int .u8 0)], .agg [.lit (.int .u8 0), .lit (.int .u8 0)], .agg [.lit (.int .u8 0), .lit (.int .u8 0)], .agg [.lit (.int .u8 0), .lit (.int .u8 0)], .agg [.lit (.int .u8 0), .lit (.int .u8 0)]]
/-- One of Go's own tables, pinned by name: the form's constant. -/
def laid_unicode_CaseRanges : DataW Unit := Go.Pinned.caseRanges
/-- One of Go's own tables, pinned by name: the form's constant. -/
def laid_unicode_utf8_first : DataW Unit := Go.Pinned.utf8First

/-- 'intrusionlaw30.SmtpFeeds': WHATEVER THE INPUT: true; the input reads as it did. -/
def smtpFeedsSpec : ChangeSpec := { name := "smtpFeeds", fn := fun _ => fun
  | [d] => { results := [.lit (.bool true)], args := [d] }
  | _ => none }
def smtpFeedsRow : OpenClaim := { program := "ytdpimhlppflidaadoor", sum := "04b143b73915b3258efb743183c3a8c5d520723f84d17495f1c3baff58d99e55", func := "intrusion/intrusionlaw30.SmtpFeeds", spec := "smtpFeeds", inPlace := ["internal/bytealg.IndexByteString", "internal/bytealg.IndexString", "internal/abi.NoEscape", "internal/bytealg.MakeNoZero"], unfollowed := true, recurses := true, named := ["internal/bytealg.MaxLen", "unicode/utf8.first", "unicode/utf8.acceptRanges", "unicode.CaseRanges"], apart := false, laid := [("unicode/utf8.acceptRanges", laid_unicode_utf8_acceptRanges), ("unicode.CaseRanges", laid_unicode_CaseRanges), ("unicode/utf8.first", laid_unicode_utf8_first)] }
def SmtpFeedsSaid : Prop := smtpFeedsRow.holds Tryd.pinned (OpenSpec.ofChange smtpFeedsSpec)

/-- ITS FALSE NEIGHBOUR: 'it returns false'. Refute it at one input. -/
def smtpFeedsWrong : ChangeSpec := { name := "smtpFeeds", fn := fun _ => fun
  | [d] => { results := [.lit (.bool false)], args := [d] }
  | _ => none }
def SmtpFeedsWrongFalsely : Prop := smtpFeedsRow.holds Tryd.pinned (OpenSpec.ofChange smtpFeedsWrong)

/-- 'intrusionlaw30.SmtpLists': WHATEVER THE INPUT: true; the input reads as it did. -/
def smtpListsSpec : ChangeSpec := { name := "smtpLists", fn := fun _ => fun
  | [d1, d2, d3] => { results := [.lit (.bool true)], args := [d1, d2, d3] }
  | _ => none }
def smtpListsRow : OpenClaim := { program := "ytdpimhlppflidaadoor", sum := "04b143b73915b3258efb743183c3a8c5d520723f84d17495f1c3baff58d99e55", func := "intrusion/intrusionlaw30.SmtpLists", spec := "smtpLists", inPlace := ["internal/bytealg.IndexByteString", "internal/bytealg.IndexString", "internal/abi.NoEscape", "internal/bytealg.MakeNoZero"], unfollowed := true, recurses := true, named := ["internal/bytealg.MaxLen", "unicode/utf8.first", "unicode/utf8.acceptRanges", "unicode.CaseRanges"], apart := false, laid := [("unicode/utf8.acceptRanges", laid_unicode_utf8_acceptRanges), ("unicode.CaseRanges", laid_unicode_CaseRanges), ("unicode/utf8.first", laid_unicode_utf8_first)] }
def SmtpListsSaid : Prop := smtpListsRow.holds Tryd.pinned (OpenSpec.ofChange smtpListsSpec)

/-- ITS FALSE NEIGHBOUR: 'it returns false'. Refute it at one input. -/
def smtpListsWrong : ChangeSpec := { name := "smtpLists", fn := fun _ => fun
  | [d1, d2, d3] => { results := [.lit (.bool false)], args := [d1, d2, d3] }
  | _ => none }
def SmtpListsWrongFalsely : Prop := smtpListsRow.holds Tryd.pinned (OpenSpec.ofChange smtpListsWrong)

/-- 'intrusionlaw30.SmtpPending': WHATEVER THE INPUT: true; the input reads as it did. -/
def smtpPendingSpec : ChangeSpec := { name := "smtpPending", fn := fun _ => fun
  | [d1, d2] => { results := [.lit (.bool true)], args := [d1, d2] }
  | _ => none }
def smtpPendingRow : OpenClaim := { program := "ytdpimhlppflidaadoor", sum := "04b143b73915b3258efb743183c3a8c5d520723f84d17495f1c3baff58d99e55", func := "intrusion/intrusionlaw30.SmtpPending", spec := "smtpPending", inPlace := ["internal/bytealg.IndexByteString", "internal/bytealg.IndexString", "internal/abi.NoEscape", "internal/bytealg.MakeNoZero"], unfollowed := true, recurses := true, named := ["internal/bytealg.MaxLen", "unicode/utf8.first", "unicode/utf8.acceptRanges", "unicode.CaseRanges"], apart := false, laid := [("unicode/utf8.acceptRanges", laid_unicode_utf8_acceptRanges), ("unicode.CaseRanges", laid_unicode_CaseRanges), ("unicode/utf8.first", laid_unicode_utf8_first)] }
def SmtpPendingSaid : Prop := smtpPendingRow.holds Tryd.pinned (OpenSpec.ofChange smtpPendingSpec)

/-- ITS FALSE NEIGHBOUR: 'it returns false'. Refute it at one input. -/
def smtpPendingWrong : ChangeSpec := { name := "smtpPending", fn := fun _ => fun
  | [d1, d2] => { results := [.lit (.bool false)], args := [d1, d2] }
  | _ => none }
def SmtpPendingWrongFalsely : Prop := smtpPendingRow.holds Tryd.pinned (OpenSpec.ofChange smtpPendingWrong)

/-- 'intrusionlaw30.SmtpOrders': WHATEVER THE INPUT: true; the input reads as it did. -/
def smtpOrdersSpec : ChangeSpec := { name := "smtpOrders", fn := fun _ => fun
  | [d] => { results := [.lit (.bool true)], args := [d] }
  | _ => none }
def smtpOrdersRow : OpenClaim := { program := "ytdpimhlppflidaadoor", sum := "04b143b73915b3258efb743183c3a8c5d520723f84d17495f1c3baff58d99e55", func := "intrusion/intrusionlaw30.SmtpOrders", spec := "smtpOrders", inPlace := ["internal/bytealg.IndexByteString", "internal/bytealg.IndexString", "internal/abi.NoEscape", "internal/bytealg.MakeNoZero"], unfollowed := true, recurses := true, named := ["internal/bytealg.MaxLen", "unicode/utf8.first", "unicode/utf8.acceptRanges", "unicode.CaseRanges"], apart := false, laid := [("unicode/utf8.acceptRanges", laid_unicode_utf8_acceptRanges), ("unicode.CaseRanges", laid_unicode_CaseRanges), ("unicode/utf8.first", laid_unicode_utf8_first)] }
def SmtpOrdersSaid : Prop := smtpOrdersRow.holds Tryd.pinned (OpenSpec.ofChange smtpOrdersSpec)

/-- ITS FALSE NEIGHBOUR: 'it returns false'. Refute it at one input. -/
def smtpOrdersWrong : ChangeSpec := { name := "smtpOrders", fn := fun _ => fun
  | [d] => { results := [.lit (.bool false)], args := [d] }
  | _ => none }
def SmtpOrdersWrongFalsely : Prop := smtpOrdersRow.holds Tryd.pinned (OpenSpec.ofChange smtpOrdersWrong)

/-- 'intrusionlaw30.SmtpMails': WHATEVER THE INPUT: true; the input reads as it did. -/
def smtpMailsSpec : ChangeSpec := { name := "smtpMails", fn := fun _ => fun
  | [d] => { results := [.lit (.bool true)], args := [d] }
  | _ => none }
def smtpMailsRow : OpenClaim := { program := "ytdpimhlppflidaadoor", sum := "04b143b73915b3258efb743183c3a8c5d520723f84d17495f1c3baff58d99e55", func := "intrusion/intrusionlaw30.SmtpMails", spec := "smtpMails", inPlace := ["internal/bytealg.IndexByteString", "internal/bytealg.IndexString", "internal/abi.NoEscape", "internal/bytealg.MakeNoZero"], unfollowed := true, recurses := true, named := ["internal/bytealg.MaxLen", "unicode/utf8.first", "unicode/utf8.acceptRanges", "unicode.CaseRanges"], apart := false, laid := [("unicode/utf8.acceptRanges", laid_unicode_utf8_acceptRanges), ("unicode.CaseRanges", laid_unicode_CaseRanges), ("unicode/utf8.first", laid_unicode_utf8_first)] }
def SmtpMailsSaid : Prop := smtpMailsRow.holds Tryd.pinned (OpenSpec.ofChange smtpMailsSpec)

/-- ITS FALSE NEIGHBOUR: 'it returns false'. Refute it at one input. -/
def smtpMailsWrong : ChangeSpec := { name := "smtpMails", fn := fun _ => fun
  | [d] => { results := [.lit (.bool false)], args := [d] }
  | _ => none }
def SmtpMailsWrongFalsely : Prop := smtpMailsRow.holds Tryd.pinned (OpenSpec.ofChange smtpMailsWrong)

/-- 'intrusionlaw30.SmtpCovered': WHATEVER THE INPUT: true; the input reads as it did. -/
def smtpCoveredSpec : ChangeSpec := { name := "smtpCovered", fn := fun _ => fun
  | [d1, d2] => { results := [.lit (.bool true)], args := [d1, d2] }
  | _ => none }
def smtpCoveredRow : OpenClaim := { program := "ytdpimhlppflidaadoor", sum := "04b143b73915b3258efb743183c3a8c5d520723f84d17495f1c3baff58d99e55", func := "intrusion/intrusionlaw30.SmtpCovered", spec := "smtpCovered", inPlace := ["internal/bytealg.IndexByteString", "internal/bytealg.IndexString", "internal/abi.NoEscape", "internal/bytealg.MakeNoZero"], unfollowed := true, recurses := true, named := ["internal/bytealg.MaxLen", "unicode/utf8.first", "unicode/utf8.acceptRanges", "unicode.CaseRanges"], apart := false, laid := [("unicode/utf8.acceptRanges", laid_unicode_utf8_acceptRanges), ("unicode.CaseRanges", laid_unicode_CaseRanges), ("unicode/utf8.first", laid_unicode_utf8_first)] }
def SmtpCoveredSaid : Prop := smtpCoveredRow.holds Tryd.pinned (OpenSpec.ofChange smtpCoveredSpec)

/-- ITS FALSE NEIGHBOUR: 'it returns false'. Refute it at one input. -/
def smtpCoveredWrong : ChangeSpec := { name := "smtpCovered", fn := fun _ => fun
  | [d1, d2] => { results := [.lit (.bool false)], args := [d1, d2] }
  | _ => none }
def SmtpCoveredWrongFalsely : Prop := smtpCoveredRow.holds Tryd.pinned (OpenSpec.ofChange smtpCoveredWrong)

/- THE SECOND FORM. 'bulk': how many values and letters a reading holds, each counted each time it is reached (what is shared counts as often as it is met; a slice's spare places count too). A statement '..UptoSaid' is the law's where the arguments, and the package variables that the reading takes, are together of bulk at most 1048576: NARROWER than '..Said'. Prove '..Said' where nothing that the law and all that it calls make is longer than what came in: it says more and counts as full. Else prove '..UptoSaid'. A law counts once. -/
mutual
def uptoBulk {H : Type} : DataW H → Nat
  | .lit (.string bytes) => bytes.length + 1
  | .lit _ => 1
  | .nil => 1
  | .ptr d => uptoBulk d + 1
  | .slice elems spare => uptoBulkAll elems + uptoBulkAll spare + 1
  | .agg parts => uptoBulkAll parts + 1
  | .iface _ d => uptoBulk d + 1
  | .map entries => uptoBulkEntries entries + 1
  | .held _ => 1
def uptoBulkAll {H : Type} : List (DataW H) → Nat
  | [] => 0
  | d :: r => uptoBulk d + uptoBulkAll r
def uptoBulkEntries {H : Type} : List (Lit × DataW H) → Nat
  | [] => 0
  | x :: r => uptoBulkEntry x + uptoBulkEntries r
def uptoBulkEntry {H : Type} : Lit × DataW H → Nat
  | (.string bytes, d) => bytes.length + uptoBulk d + 1
  | (_, d) => uptoBulk d + 1
 end
def uptoSmall : (H : Type) → List (DataW H) → Bool := fun _ ds => decide (uptoBulkAll ds ≤ 1048576)
def OpenSpec.upto (s : _root_.Go.ChangeSpec) : _root_.Go.OpenSpec := { _root_.Go.OpenSpec.ofChange s with cond := some uptoSmall }

/-- 'intrusionlaw30.SmtpFeeds', WHERE WHAT IT READS IS OF BULK AT MOST 1048576: true; the input reads as it did. -/
def smtpFeedsUptoRow : OpenClaim := { program := "ytdpimhlppflidaadoor", sum := "04b143b73915b3258efb743183c3a8c5d520723f84d17495f1c3baff58d99e55", func := "intrusion/intrusionlaw30.SmtpFeeds", spec := "smtpFeeds", inPlace := ["internal/bytealg.IndexByteString", "internal/bytealg.IndexString", "internal/abi.NoEscape", "internal/bytealg.MakeNoZero"], unfollowed := true, recurses := true, named := ["internal/bytealg.MaxLen", "unicode/utf8.first", "unicode/utf8.acceptRanges", "unicode.CaseRanges"], apart := false, laid := [("unicode/utf8.acceptRanges", laid_unicode_utf8_acceptRanges), ("unicode.CaseRanges", laid_unicode_CaseRanges), ("unicode/utf8.first", laid_unicode_utf8_first)], narrowed := true }
def SmtpFeedsUptoSaid : Prop := smtpFeedsUptoRow.holds Tryd.pinned (OpenSpec.upto smtpFeedsSpec)

/-- 'intrusionlaw30.SmtpLists', WHERE WHAT IT READS IS OF BULK AT MOST 1048576: true; the input reads as it did. -/
def smtpListsUptoRow : OpenClaim := { program := "ytdpimhlppflidaadoor", sum := "04b143b73915b3258efb743183c3a8c5d520723f84d17495f1c3baff58d99e55", func := "intrusion/intrusionlaw30.SmtpLists", spec := "smtpLists", inPlace := ["internal/bytealg.IndexByteString", "internal/bytealg.IndexString", "internal/abi.NoEscape", "internal/bytealg.MakeNoZero"], unfollowed := true, recurses := true, named := ["internal/bytealg.MaxLen", "unicode/utf8.first", "unicode/utf8.acceptRanges", "unicode.CaseRanges"], apart := false, laid := [("unicode/utf8.acceptRanges", laid_unicode_utf8_acceptRanges), ("unicode.CaseRanges", laid_unicode_CaseRanges), ("unicode/utf8.first", laid_unicode_utf8_first)], narrowed := true }
def SmtpListsUptoSaid : Prop := smtpListsUptoRow.holds Tryd.pinned (OpenSpec.upto smtpListsSpec)

/-- 'intrusionlaw30.SmtpPending', WHERE WHAT IT READS IS OF BULK AT MOST 1048576: true; the input reads as it did. -/
def smtpPendingUptoRow : OpenClaim := { program := "ytdpimhlppflidaadoor", sum := "04b143b73915b3258efb743183c3a8c5d520723f84d17495f1c3baff58d99e55", func := "intrusion/intrusionlaw30.SmtpPending", spec := "smtpPending", inPlace := ["internal/bytealg.IndexByteString", "internal/bytealg.IndexString", "internal/abi.NoEscape", "internal/bytealg.MakeNoZero"], unfollowed := true, recurses := true, named := ["internal/bytealg.MaxLen", "unicode/utf8.first", "unicode/utf8.acceptRanges", "unicode.CaseRanges"], apart := false, laid := [("unicode/utf8.acceptRanges", laid_unicode_utf8_acceptRanges), ("unicode.CaseRanges", laid_unicode_CaseRanges), ("unicode/utf8.first", laid_unicode_utf8_first)], narrowed := true }
def SmtpPendingUptoSaid : Prop := smtpPendingUptoRow.holds Tryd.pinned (OpenSpec.upto smtpPendingSpec)

/-- 'intrusionlaw30.SmtpOrders', WHERE WHAT IT READS IS OF BULK AT MOST 1048576: true; the input reads as it did. -/
def smtpOrdersUptoRow : OpenClaim := { program := "ytdpimhlppflidaadoor", sum := "04b143b73915b3258efb743183c3a8c5d520723f84d17495f1c3baff58d99e55", func := "intrusion/intrusionlaw30.SmtpOrders", spec := "smtpOrders", inPlace := ["internal/bytealg.IndexByteString", "internal/bytealg.IndexString", "internal/abi.NoEscape", "internal/bytealg.MakeNoZero"], unfollowed := true, recurses := true, named := ["internal/bytealg.MaxLen", "unicode/utf8.first", "unicode/utf8.acceptRanges", "unicode.CaseRanges"], apart := false, laid := [("unicode/utf8.acceptRanges", laid_unicode_utf8_acceptRanges), ("unicode.CaseRanges", laid_unicode_CaseRanges), ("unicode/utf8.first", laid_unicode_utf8_first)], narrowed := true }
def SmtpOrdersUptoSaid : Prop := smtpOrdersUptoRow.holds Tryd.pinned (OpenSpec.upto smtpOrdersSpec)

/-- 'intrusionlaw30.SmtpMails', WHERE WHAT IT READS IS OF BULK AT MOST 1048576: true; the input reads as it did. -/
def smtpMailsUptoRow : OpenClaim := { program := "ytdpimhlppflidaadoor", sum := "04b143b73915b3258efb743183c3a8c5d520723f84d17495f1c3baff58d99e55", func := "intrusion/intrusionlaw30.SmtpMails", spec := "smtpMails", inPlace := ["internal/bytealg.IndexByteString", "internal/bytealg.IndexString", "internal/abi.NoEscape", "internal/bytealg.MakeNoZero"], unfollowed := true, recurses := true, named := ["internal/bytealg.MaxLen", "unicode/utf8.first", "unicode/utf8.acceptRanges", "unicode.CaseRanges"], apart := false, laid := [("unicode/utf8.acceptRanges", laid_unicode_utf8_acceptRanges), ("unicode.CaseRanges", laid_unicode_CaseRanges), ("unicode/utf8.first", laid_unicode_utf8_first)], narrowed := true }
def SmtpMailsUptoSaid : Prop := smtpMailsUptoRow.holds Tryd.pinned (OpenSpec.upto smtpMailsSpec)

/-- 'intrusionlaw30.SmtpCovered', WHERE WHAT IT READS IS OF BULK AT MOST 1048576: true; the input reads as it did. -/
def smtpCoveredUptoRow : OpenClaim := { program := "ytdpimhlppflidaadoor", sum := "04b143b73915b3258efb743183c3a8c5d520723f84d17495f1c3baff58d99e55", func := "intrusion/intrusionlaw30.SmtpCovered", spec := "smtpCovered", inPlace := ["internal/bytealg.IndexByteString", "internal/bytealg.IndexString", "internal/abi.NoEscape", "internal/bytealg.MakeNoZero"], unfollowed := true, recurses := true, named := ["internal/bytealg.MaxLen", "unicode/utf8.first", "unicode/utf8.acceptRanges", "unicode.CaseRanges"], apart := false, laid := [("unicode/utf8.acceptRanges", laid_unicode_utf8_acceptRanges), ("unicode.CaseRanges", laid_unicode_CaseRanges), ("unicode/utf8.first", laid_unicode_utf8_first)], narrowed := true }
def SmtpCoveredUptoSaid : Prop := smtpCoveredUptoRow.holds Tryd.pinned (OpenSpec.upto smtpCoveredSpec)

end Rows
end Go.Proofs.YtdpimhlppflidaaDoor
