/-
  NARROWER THAN 'FOR EVERY INPUT', by the rows' own cells (each row's printed sentence says how): DnsNames: laid · DnsDecodes: laid · DnsEncodes: laid · DnsRoundTrip: laid · DnsAccepts: laid · DnsStreams: laid · DnsPieces: laid.
  DERIVED. THE GIVEN ROWS OF THIS SEAT. 7 by the template 'for every input the law returns true; each argument reads behind the call as it read before'; 0 by the template 'total and deterministic' (their statements: YtmjbcnbjedipdaaDoorTotals.lean).
  GIVEN WITH THE SEED: the statements are not yours to turn. If you find one false, say at which input.
  Laid BY PROGRAM, IN A SANDBOX (cutbox-rows.mjs): the forced cells as the released guide's own fill.sh prints them over the translation 4dc6ea249087e736… (all of the seat's roots in one cut). By AI agents, Wed Nov 11 2026. No macro, syntax, notation, axiom, sorry.
-/
import Derived.Test.YtmjbcnbjedipdaaDoorChecked
import GoSem.PinnedTables
import GoSem.Claim
import GoSem.ClaimJoined
import GoSem.ClaimMapViews
import Derived.JoinedTies
import Derived.KernelRfl
namespace Go.Proofs.YtmjbcnbjedipdaaDoor
/- THE CELL 'sum', in the pinned program and in every row, IS THE sha256 OF THE DUMP (.gsa) THAT YtmjbcnbjedipdaaDoorProg.lean LOADS. Nothing in Lean hashes anything: it is a label: what it is worth is what the hold of that sum in a sandbox is worth. -/
noncomputable def Tryd.pinned : Pinned := { name := "ytmjbcnbjedipdaadoor", sum := "4dc6ea249087e7365e41e82fc95db8f8355df7224003c069b8d07aa264640c4a", checked := Tryd.checked }
namespace Rows
def none {H : Type} : Left H := { results := [], args := [] }

/- WHAT THE LISTED PACKAGE-LEVEL VARIABLES READ AS WHEN THE CALL BEGINS. Each datum BY PROGRAM (the guide's laid-datum.mjs) off the statement by which the dump's own 'gosem.cut.vars' lays the variable. In a bare row this is a premise. The card (YtmjbcnbjedipdaaDoorCards.lean) ties it to the program's text. -/
def laid_unicode_utf8_acceptRanges {H : Type} : DataW H := .agg [.agg [.lit (.int .u8 128), .lit (.int .u8 191)], .agg [.lit (.int .u8 160), .lit (.int .u8 191)], .agg [.lit (.int .u8 128), .lit (.int .u8 159)], .agg [.lit (.int .u8 144), .lit (.int .u8 191)], .agg [.lit (.int .u8 128), .lit (.int .u8 143)], .agg [.lit (.int .u8 0), .lit (.int .u8 0)], .agg [.lit (.int .u8 0), .lit (.int .u8 0)], .agg [.lit (.int .u8 0), .lit (.int .u8 0)], .agg [.lit (.int .u8 0), .lit (.int .u8 0)], .agg [.lit (.int .u8 0), .lit (.int .u8 0)], .agg [.lit (.int .u8 0), .lit (.int .u8 0)], .agg [.lit (.int .u8 0), .lit (.int .u8 0)], .agg [.lit (.int .u8 0), .lit (.int .u8 0)], .agg [.lit (.int .u8 0), .lit (.int .u8 0)], .agg [.lit (.int .u8 0), .lit (.int .u8 0)], .agg [.lit (.int .u8 0), .lit (.int .u8 0)]]
/-- One of Go's own tables, pinned by name: the form's constant. -/
def laid_unicode_utf8_first : DataW Unit := Go.Pinned.utf8First

/-- 'intrusionlaw29.DnsNames': WHATEVER THE INPUT: true; the input reads as it did. -/
def dnsNamesSpec : ChangeSpec := { name := "dnsNames", fn := fun _ => fun
  | [d] => { results := [.lit (.bool true)], args := [d] }
  | _ => none }
def dnsNamesRow : OpenClaim := { program := "ytmjbcnbjedipdaadoor", sum := "4dc6ea249087e7365e41e82fc95db8f8355df7224003c069b8d07aa264640c4a", func := "intrusion/intrusionlaw29.DnsNames", spec := "dnsNames", inPlace := ["internal/bytealg.CountString", "internal/bytealg.IndexByteString", "internal/bytealg.IndexString"], unfollowed := true, recurses := true, named := ["unicode/utf8.first", "unicode/utf8.acceptRanges", "internal/bytealg.MaxLen"], apart := false, laid := [("unicode/utf8.acceptRanges", laid_unicode_utf8_acceptRanges), ("unicode/utf8.first", laid_unicode_utf8_first)] }
def DnsNamesSaid : Prop := dnsNamesRow.holds Tryd.pinned (OpenSpec.ofChange dnsNamesSpec)

/-- ITS FALSE NEIGHBOUR: 'it returns false'. Refute it at one input. -/
def dnsNamesWrong : ChangeSpec := { name := "dnsNames", fn := fun _ => fun
  | [d] => { results := [.lit (.bool false)], args := [d] }
  | _ => none }
def DnsNamesWrongFalsely : Prop := dnsNamesRow.holds Tryd.pinned (OpenSpec.ofChange dnsNamesWrong)

/-- 'intrusionlaw29.DnsDecodes': WHATEVER THE INPUT: true; the input reads as it did. -/
def dnsDecodesSpec : ChangeSpec := { name := "dnsDecodes", fn := fun _ => fun
  | [d] => { results := [.lit (.bool true)], args := [d] }
  | _ => none }
def dnsDecodesRow : OpenClaim := { program := "ytmjbcnbjedipdaadoor", sum := "4dc6ea249087e7365e41e82fc95db8f8355df7224003c069b8d07aa264640c4a", func := "intrusion/intrusionlaw29.DnsDecodes", spec := "dnsDecodes", inPlace := ["internal/bytealg.CountString", "internal/bytealg.IndexByteString", "internal/bytealg.IndexString"], unfollowed := true, recurses := true, named := ["unicode/utf8.first", "unicode/utf8.acceptRanges", "internal/bytealg.MaxLen"], apart := false, laid := [("unicode/utf8.acceptRanges", laid_unicode_utf8_acceptRanges), ("unicode/utf8.first", laid_unicode_utf8_first)] }
def DnsDecodesSaid : Prop := dnsDecodesRow.holds Tryd.pinned (OpenSpec.ofChange dnsDecodesSpec)

/-- ITS FALSE NEIGHBOUR: 'it returns false'. Refute it at one input. -/
def dnsDecodesWrong : ChangeSpec := { name := "dnsDecodes", fn := fun _ => fun
  | [d] => { results := [.lit (.bool false)], args := [d] }
  | _ => none }
def DnsDecodesWrongFalsely : Prop := dnsDecodesRow.holds Tryd.pinned (OpenSpec.ofChange dnsDecodesWrong)

/-- 'intrusionlaw29.DnsEncodes': WHATEVER THE INPUT: true; the input reads as it did. -/
def dnsEncodesSpec : ChangeSpec := { name := "dnsEncodes", fn := fun _ => fun
  | [d] => { results := [.lit (.bool true)], args := [d] }
  | _ => none }
def dnsEncodesRow : OpenClaim := { program := "ytmjbcnbjedipdaadoor", sum := "4dc6ea249087e7365e41e82fc95db8f8355df7224003c069b8d07aa264640c4a", func := "intrusion/intrusionlaw29.DnsEncodes", spec := "dnsEncodes", inPlace := ["internal/bytealg.CountString", "internal/bytealg.IndexByteString", "internal/bytealg.IndexString"], unfollowed := true, recurses := true, named := ["unicode/utf8.first", "unicode/utf8.acceptRanges", "internal/bytealg.MaxLen"], apart := false, laid := [("unicode/utf8.acceptRanges", laid_unicode_utf8_acceptRanges), ("unicode/utf8.first", laid_unicode_utf8_first)] }
def DnsEncodesSaid : Prop := dnsEncodesRow.holds Tryd.pinned (OpenSpec.ofChange dnsEncodesSpec)

/-- ITS FALSE NEIGHBOUR: 'it returns false'. Refute it at one input. -/
def dnsEncodesWrong : ChangeSpec := { name := "dnsEncodes", fn := fun _ => fun
  | [d] => { results := [.lit (.bool false)], args := [d] }
  | _ => none }
def DnsEncodesWrongFalsely : Prop := dnsEncodesRow.holds Tryd.pinned (OpenSpec.ofChange dnsEncodesWrong)

/-- 'intrusionlaw29.DnsRoundTrip': WHATEVER THE INPUT: true; the input reads as it did. -/
def dnsRoundTripSpec : ChangeSpec := { name := "dnsRoundTrip", fn := fun _ => fun
  | [d] => { results := [.lit (.bool true)], args := [d] }
  | _ => none }
def dnsRoundTripRow : OpenClaim := { program := "ytmjbcnbjedipdaadoor", sum := "4dc6ea249087e7365e41e82fc95db8f8355df7224003c069b8d07aa264640c4a", func := "intrusion/intrusionlaw29.DnsRoundTrip", spec := "dnsRoundTrip", inPlace := ["internal/bytealg.CountString", "internal/bytealg.IndexByteString", "internal/bytealg.IndexString"], unfollowed := true, recurses := true, named := ["unicode/utf8.first", "unicode/utf8.acceptRanges", "internal/bytealg.MaxLen"], apart := false, laid := [("unicode/utf8.acceptRanges", laid_unicode_utf8_acceptRanges), ("unicode/utf8.first", laid_unicode_utf8_first)] }
def DnsRoundTripSaid : Prop := dnsRoundTripRow.holds Tryd.pinned (OpenSpec.ofChange dnsRoundTripSpec)

/-- ITS FALSE NEIGHBOUR: 'it returns false'. Refute it at one input. -/
def dnsRoundTripWrong : ChangeSpec := { name := "dnsRoundTrip", fn := fun _ => fun
  | [d] => { results := [.lit (.bool false)], args := [d] }
  | _ => none }
def DnsRoundTripWrongFalsely : Prop := dnsRoundTripRow.holds Tryd.pinned (OpenSpec.ofChange dnsRoundTripWrong)

/-- 'intrusionlaw29.DnsAccepts': WHATEVER THE INPUT: true; the input reads as it did. -/
def dnsAcceptsSpec : ChangeSpec := { name := "dnsAccepts", fn := fun _ => fun
  | [d] => { results := [.lit (.bool true)], args := [d] }
  | _ => none }
def dnsAcceptsRow : OpenClaim := { program := "ytmjbcnbjedipdaadoor", sum := "4dc6ea249087e7365e41e82fc95db8f8355df7224003c069b8d07aa264640c4a", func := "intrusion/intrusionlaw29.DnsAccepts", spec := "dnsAccepts", inPlace := ["internal/bytealg.CountString", "internal/bytealg.IndexByteString", "internal/bytealg.IndexString"], unfollowed := true, recurses := true, named := ["unicode/utf8.first", "unicode/utf8.acceptRanges", "internal/bytealg.MaxLen"], apart := false, laid := [("unicode/utf8.acceptRanges", laid_unicode_utf8_acceptRanges), ("unicode/utf8.first", laid_unicode_utf8_first)] }
def DnsAcceptsSaid : Prop := dnsAcceptsRow.holds Tryd.pinned (OpenSpec.ofChange dnsAcceptsSpec)

/-- ITS FALSE NEIGHBOUR: 'it returns false'. Refute it at one input. -/
def dnsAcceptsWrong : ChangeSpec := { name := "dnsAccepts", fn := fun _ => fun
  | [d] => { results := [.lit (.bool false)], args := [d] }
  | _ => none }
def DnsAcceptsWrongFalsely : Prop := dnsAcceptsRow.holds Tryd.pinned (OpenSpec.ofChange dnsAcceptsWrong)

/-- 'intrusionlaw29.DnsStreams': WHATEVER THE INPUT: true; the input reads as it did. -/
def dnsStreamsSpec : ChangeSpec := { name := "dnsStreams", fn := fun _ => fun
  | [d] => { results := [.lit (.bool true)], args := [d] }
  | _ => none }
def dnsStreamsRow : OpenClaim := { program := "ytmjbcnbjedipdaadoor", sum := "4dc6ea249087e7365e41e82fc95db8f8355df7224003c069b8d07aa264640c4a", func := "intrusion/intrusionlaw29.DnsStreams", spec := "dnsStreams", inPlace := ["internal/bytealg.CountString", "internal/bytealg.IndexByteString", "internal/bytealg.IndexString"], unfollowed := true, recurses := true, named := ["unicode/utf8.first", "unicode/utf8.acceptRanges", "internal/bytealg.MaxLen"], apart := false, laid := [("unicode/utf8.acceptRanges", laid_unicode_utf8_acceptRanges), ("unicode/utf8.first", laid_unicode_utf8_first)] }
def DnsStreamsSaid : Prop := dnsStreamsRow.holds Tryd.pinned (OpenSpec.ofChange dnsStreamsSpec)

/-- ITS FALSE NEIGHBOUR: 'it returns false'. Refute it at one input. -/
def dnsStreamsWrong : ChangeSpec := { name := "dnsStreams", fn := fun _ => fun
  | [d] => { results := [.lit (.bool false)], args := [d] }
  | _ => none }
def DnsStreamsWrongFalsely : Prop := dnsStreamsRow.holds Tryd.pinned (OpenSpec.ofChange dnsStreamsWrong)

/-- 'intrusionlaw29.DnsPieces': WHATEVER THE INPUT: true; the input reads as it did. -/
def dnsPiecesSpec : ChangeSpec := { name := "dnsPieces", fn := fun _ => fun
  | [d1, d2] => { results := [.lit (.bool true)], args := [d1, d2] }
  | _ => none }
def dnsPiecesRow : OpenClaim := { program := "ytmjbcnbjedipdaadoor", sum := "4dc6ea249087e7365e41e82fc95db8f8355df7224003c069b8d07aa264640c4a", func := "intrusion/intrusionlaw29.DnsPieces", spec := "dnsPieces", inPlace := ["internal/bytealg.CountString", "internal/bytealg.IndexByteString", "internal/bytealg.IndexString"], unfollowed := true, recurses := true, named := ["unicode/utf8.first", "unicode/utf8.acceptRanges", "internal/bytealg.MaxLen"], apart := false, laid := [("unicode/utf8.acceptRanges", laid_unicode_utf8_acceptRanges), ("unicode/utf8.first", laid_unicode_utf8_first)] }
def DnsPiecesSaid : Prop := dnsPiecesRow.holds Tryd.pinned (OpenSpec.ofChange dnsPiecesSpec)

/-- ITS FALSE NEIGHBOUR: 'it returns false'. Refute it at one input. -/
def dnsPiecesWrong : ChangeSpec := { name := "dnsPieces", fn := fun _ => fun
  | [d1, d2] => { results := [.lit (.bool false)], args := [d1, d2] }
  | _ => none }
def DnsPiecesWrongFalsely : Prop := dnsPiecesRow.holds Tryd.pinned (OpenSpec.ofChange dnsPiecesWrong)

/- THE SECOND FORM. 'bulk': how many values and letters a reading holds, each counted each time it is reached (what is shared counts as often as it is met; a slice's spare places count too). A statement '..UptoSaid' is the law's where the arguments, and the package variables that the reading takes, are together of bulk at most 1048576: NARROWER than '..Said'. Prove '..Said' where nothing that the law and all that it calls make is longer than what came in: it says more and counts as full. Else prove '..UptoSaid'. A law counts once. -/
mutual
def uptoBulk {H : Type} : DataW H → Nat
  | .lit (.string bytes) => bytes.length + 1
  | .lit _ => 1
  | .nil => 1
  | .ptr d => uptoBulk d + 1
  | .slice elems spare => uptoBulkAll elems + uptoBulkAll spare + 1
  | .agg parts => uptoBulkAll parts + 1
  | .iface _ d => uptoBulk d + 1
  | .map entries => uptoBulkEntries entries + 1
  | .held _ => 1
def uptoBulkAll {H : Type} : List (DataW H) → Nat
  | [] => 0
  | d :: r => uptoBulk d + uptoBulkAll r
def uptoBulkEntries {H : Type} : List (Lit × DataW H) → Nat
  | [] => 0
  | x :: r => uptoBulkEntry x + uptoBulkEntries r
def uptoBulkEntry {H : Type} : Lit × DataW H → Nat
  | (.string bytes, d) => bytes.length + uptoBulk d + 1
  | (_, d) => uptoBulk d + 1
 end
def uptoSmall : (H : Type) → List (DataW H) → Bool := fun _ ds => decide (uptoBulkAll ds ≤ 1048576)
def OpenSpec.upto (s : _root_.Go.ChangeSpec) : _root_.Go.OpenSpec := { _root_.Go.OpenSpec.ofChange s with cond := some uptoSmall }

/-- 'intrusionlaw29.DnsNames', WHERE WHAT IT READS IS OF BULK AT MOST 1048576: true; the input reads as it did. -/
def dnsNamesUptoRow : OpenClaim := { program := "ytmjbcnbjedipdaadoor", sum := "4dc6ea249087e7365e41e82fc95db8f8355df7224003c069b8d07aa264640c4a", func := "intrusion/intrusionlaw29.DnsNames", spec := "dnsNames", inPlace := ["internal/bytealg.CountString", "internal/bytealg.IndexByteString", "internal/bytealg.IndexString"], unfollowed := true, recurses := true, named := ["unicode/utf8.first", "unicode/utf8.acceptRanges", "internal/bytealg.MaxLen"], apart := false, laid := [("unicode/utf8.acceptRanges", laid_unicode_utf8_acceptRanges), ("unicode/utf8.first", laid_unicode_utf8_first)], narrowed := true }
def DnsNamesUptoSaid : Prop := dnsNamesUptoRow.holds Tryd.pinned (OpenSpec.upto dnsNamesSpec)

/-- 'intrusionlaw29.DnsDecodes', WHERE WHAT IT READS IS OF BULK AT MOST 1048576: true; the input reads as it did. -/
def dnsDecodesUptoRow : OpenClaim := { program := "ytmjbcnbjedipdaadoor", sum := "4dc6ea249087e7365e41e82fc95db8f8355df7224003c069b8d07aa264640c4a", func := "intrusion/intrusionlaw29.DnsDecodes", spec := "dnsDecodes", inPlace := ["internal/bytealg.CountString", "internal/bytealg.IndexByteString", "internal/bytealg.IndexString"], unfollowed := true, recurses := true, named := ["unicode/utf8.first", "unicode/utf8.acceptRanges", "internal/bytealg.MaxLen"], apart := false, laid := [("unicode/utf8.acceptRanges", laid_unicode_utf8_acceptRanges), ("unicode/utf8.first", laid_unicode_utf8_first)], narrowed := true }
def DnsDecodesUptoSaid : Prop := dnsDecodesUptoRow.holds Tryd.pinned (OpenSpec.upto dnsDecodesSpec)

/-- 'intrusionlaw29.DnsEncodes', WHERE WHAT IT READS IS OF BULK AT MOST 1048576: true; the input reads as it did. -/
def dnsEncodesUptoRow : OpenClaim := { program := "ytmjbcnbjedipdaadoor", sum := "4dc6ea249087e7365e41e82fc95db8f8355df7224003c069b8d07aa264640c4a", func := "intrusion/intrusionlaw29.DnsEncodes", spec := "dnsEncodes", inPlace := ["internal/bytealg.CountString", "internal/bytealg.IndexByteString", "internal/bytealg.IndexString"], unfollowed := true, recurses := true, named := ["unicode/utf8.first", "unicode/utf8.acceptRanges", "internal/bytealg.MaxLen"], apart := false, laid := [("unicode/utf8.acceptRanges", laid_unicode_utf8_acceptRanges), ("unicode/utf8.first", laid_unicode_utf8_first)], narrowed := true }
def DnsEncodesUptoSaid : Prop := dnsEncodesUptoRow.holds Tryd.pinned (OpenSpec.upto dnsEncodesSpec)

/-- 'intrusionlaw29.DnsRoundTrip', WHERE WHAT IT READS IS OF BULK AT MOST 1048576: true; the input reads as it did. -/
def dnsRoundTripUptoRow : OpenClaim := { program := "ytmjbcnbjedipdaadoor", sum := "4dc6ea249087e7365e41e82fc95db8f8355df7224003c069b8d07aa264640c4a", func := "intrusion/intrusionlaw29.DnsRoundTrip", spec := "dnsRoundTrip", inPlace := ["internal/bytealg.CountString", "internal/bytealg.IndexByteString", "internal/bytealg.IndexString"], unfollowed := true, recurses := true, named := ["unicode/utf8.first", "unicode/utf8.acceptRanges", "internal/bytealg.MaxLen"], apart := false, laid := [("unicode/utf8.acceptRanges", laid_unicode_utf8_acceptRanges), ("unicode/utf8.first", laid_unicode_utf8_first)], narrowed := true }
def DnsRoundTripUptoSaid : Prop := dnsRoundTripUptoRow.holds Tryd.pinned (OpenSpec.upto dnsRoundTripSpec)

/-- 'intrusionlaw29.DnsAccepts', WHERE WHAT IT READS IS OF BULK AT MOST 1048576: true; the input reads as it did. -/
def dnsAcceptsUptoRow : OpenClaim := { program := "ytmjbcnbjedipdaadoor", sum := "4dc6ea249087e7365e41e82fc95db8f8355df7224003c069b8d07aa264640c4a", func := "intrusion/intrusionlaw29.DnsAccepts", spec := "dnsAccepts", inPlace := ["internal/bytealg.CountString", "internal/bytealg.IndexByteString", "internal/bytealg.IndexString"], unfollowed := true, recurses := true, named := ["unicode/utf8.first", "unicode/utf8.acceptRanges", "internal/bytealg.MaxLen"], apart := false, laid := [("unicode/utf8.acceptRanges", laid_unicode_utf8_acceptRanges), ("unicode/utf8.first", laid_unicode_utf8_first)], narrowed := true }
def DnsAcceptsUptoSaid : Prop := dnsAcceptsUptoRow.holds Tryd.pinned (OpenSpec.upto dnsAcceptsSpec)

/-- 'intrusionlaw29.DnsStreams', WHERE WHAT IT READS IS OF BULK AT MOST 1048576: true; the input reads as it did. -/
def dnsStreamsUptoRow : OpenClaim := { program := "ytmjbcnbjedipdaadoor", sum := "4dc6ea249087e7365e41e82fc95db8f8355df7224003c069b8d07aa264640c4a", func := "intrusion/intrusionlaw29.DnsStreams", spec := "dnsStreams", inPlace := ["internal/bytealg.CountString", "internal/bytealg.IndexByteString", "internal/bytealg.IndexString"], unfollowed := true, recurses := true, named := ["unicode/utf8.first", "unicode/utf8.acceptRanges", "internal/bytealg.MaxLen"], apart := false, laid := [("unicode/utf8.acceptRanges", laid_unicode_utf8_acceptRanges), ("unicode/utf8.first", laid_unicode_utf8_first)], narrowed := true }
def DnsStreamsUptoSaid : Prop := dnsStreamsUptoRow.holds Tryd.pinned (OpenSpec.upto dnsStreamsSpec)

/-- 'intrusionlaw29.DnsPieces', WHERE WHAT IT READS IS OF BULK AT MOST 1048576: true; the input reads as it did. -/
def dnsPiecesUptoRow : OpenClaim := { program := "ytmjbcnbjedipdaadoor", sum := "4dc6ea249087e7365e41e82fc95db8f8355df7224003c069b8d07aa264640c4a", func := "intrusion/intrusionlaw29.DnsPieces", spec := "dnsPieces", inPlace := ["internal/bytealg.CountString", "internal/bytealg.IndexByteString", "internal/bytealg.IndexString"], unfollowed := true, recurses := true, named := ["unicode/utf8.first", "unicode/utf8.acceptRanges", "internal/bytealg.MaxLen"], apart := false, laid := [("unicode/utf8.acceptRanges", laid_unicode_utf8_acceptRanges), ("unicode/utf8.first", laid_unicode_utf8_first)], narrowed := true }
def DnsPiecesUptoSaid : Prop := dnsPiecesUptoRow.holds Tryd.pinned (OpenSpec.upto dnsPiecesSpec)

end Rows
end Go.Proofs.YtmjbcnbjedipdaaDoor
