/-
  DERIVED. GIVEN WITH THE SEED: THE CARDS: each row of YtmjbcnbjedipdaaDoorRows.lean that lists a variable, with what it lists TIED to the program's text (the seventh form; the later family's looks); each row that meets fmt, with fmt's text TOLD by the authors' own Lean function (tested against real Go, not proved from fmt's source: count such statements apart). THE CARD IS WHAT COUNTS. Prove the row's statement (the work); the ties are given (YtmjbcnbjedipdaaDoorTie.lean); close each card by the builder's one call (the guide's Derived/Test/ToyasCard.lean, 'card_holds'). Laid BY PROGRAM, IN A SANDBOX (cutbox-door.mjs). By AI agents, Wed Nov 11 2026. No macro, syntax, notation, axiom, sorry.
-/
import Derived.Test.YtmjbcnbjedipdaaDoorRows
import GoSem.ClaimSeven
namespace Go.Proofs.YtmjbcnbjedipdaaDoor
namespace Rows

/-- THE TIED CARD OF 'intrusionlaw29.DnsNames'. -/
def dnsNamesCard : Claim7 := { stood := { row := dnsNamesRow, standIns := [], harness := (true, "1360903df229634e5ca42a94fa1cfb1d1055e09736cdc0932e2d414fd64fe1b9"), looks := false }, kinds := [], alts := [], laidByText := true, laidKinds := [.data, .pinned], laidTests := true, laidLooks := .later }
def DnsNamesCardSaid : Prop := Claim7.holds Tryd.pinned (.plain (OpenSpec.ofChange dnsNamesSpec)) dnsNamesCard

/-- THE TIED CARD OF 'intrusionlaw29.DnsDecodes'. -/
def dnsDecodesCard : Claim7 := { stood := { row := dnsDecodesRow, standIns := [], harness := (true, "1360903df229634e5ca42a94fa1cfb1d1055e09736cdc0932e2d414fd64fe1b9"), looks := false }, kinds := [], alts := [], laidByText := true, laidKinds := [.data, .pinned], laidTests := true, laidLooks := .later }
def DnsDecodesCardSaid : Prop := Claim7.holds Tryd.pinned (.plain (OpenSpec.ofChange dnsDecodesSpec)) dnsDecodesCard

/-- THE TIED CARD OF 'intrusionlaw29.DnsEncodes'. -/
def dnsEncodesCard : Claim7 := { stood := { row := dnsEncodesRow, standIns := [], harness := (true, "1360903df229634e5ca42a94fa1cfb1d1055e09736cdc0932e2d414fd64fe1b9"), looks := false }, kinds := [], alts := [], laidByText := true, laidKinds := [.data, .pinned], laidTests := true, laidLooks := .later }
def DnsEncodesCardSaid : Prop := Claim7.holds Tryd.pinned (.plain (OpenSpec.ofChange dnsEncodesSpec)) dnsEncodesCard

/-- THE TIED CARD OF 'intrusionlaw29.DnsRoundTrip'. -/
def dnsRoundTripCard : Claim7 := { stood := { row := dnsRoundTripRow, standIns := [], harness := (true, "1360903df229634e5ca42a94fa1cfb1d1055e09736cdc0932e2d414fd64fe1b9"), looks := false }, kinds := [], alts := [], laidByText := true, laidKinds := [.data, .pinned], laidTests := true, laidLooks := .later }
def DnsRoundTripCardSaid : Prop := Claim7.holds Tryd.pinned (.plain (OpenSpec.ofChange dnsRoundTripSpec)) dnsRoundTripCard

/-- THE TIED CARD OF 'intrusionlaw29.DnsAccepts'. -/
def dnsAcceptsCard : Claim7 := { stood := { row := dnsAcceptsRow, standIns := [], harness := (true, "1360903df229634e5ca42a94fa1cfb1d1055e09736cdc0932e2d414fd64fe1b9"), looks := false }, kinds := [], alts := [], laidByText := true, laidKinds := [.data, .pinned], laidTests := true, laidLooks := .later }
def DnsAcceptsCardSaid : Prop := Claim7.holds Tryd.pinned (.plain (OpenSpec.ofChange dnsAcceptsSpec)) dnsAcceptsCard

/-- THE TIED CARD OF 'intrusionlaw29.DnsStreams'. -/
def dnsStreamsCard : Claim7 := { stood := { row := dnsStreamsRow, standIns := [], harness := (true, "1360903df229634e5ca42a94fa1cfb1d1055e09736cdc0932e2d414fd64fe1b9"), looks := false }, kinds := [], alts := [], laidByText := true, laidKinds := [.data, .pinned], laidTests := true, laidLooks := .later }
def DnsStreamsCardSaid : Prop := Claim7.holds Tryd.pinned (.plain (OpenSpec.ofChange dnsStreamsSpec)) dnsStreamsCard

/-- THE TIED CARD OF 'intrusionlaw29.DnsPieces'. -/
def dnsPiecesCard : Claim7 := { stood := { row := dnsPiecesRow, standIns := [], harness := (true, "1360903df229634e5ca42a94fa1cfb1d1055e09736cdc0932e2d414fd64fe1b9"), looks := false }, kinds := [], alts := [], laidByText := true, laidKinds := [.data, .pinned], laidTests := true, laidLooks := .later }
def DnsPiecesCardSaid : Prop := Claim7.holds Tryd.pinned (.plain (OpenSpec.ofChange dnsPiecesSpec)) dnsPiecesCard

/-- THE SECOND FORM's CARD OF 'intrusionlaw29.DnsNames'. -/
def dnsNamesUptoCard : Claim7 := { stood := { row := dnsNamesUptoRow, standIns := [], harness := (true, "1360903df229634e5ca42a94fa1cfb1d1055e09736cdc0932e2d414fd64fe1b9"), looks := false }, kinds := [], alts := [], laidByText := true, laidKinds := [.data, .pinned], laidTests := true, laidLooks := .later }
def DnsNamesUptoCardSaid : Prop := Claim7.holds Tryd.pinned (.plain (OpenSpec.upto dnsNamesSpec)) dnsNamesUptoCard

/-- THE SECOND FORM's CARD OF 'intrusionlaw29.DnsDecodes'. -/
def dnsDecodesUptoCard : Claim7 := { stood := { row := dnsDecodesUptoRow, standIns := [], harness := (true, "1360903df229634e5ca42a94fa1cfb1d1055e09736cdc0932e2d414fd64fe1b9"), looks := false }, kinds := [], alts := [], laidByText := true, laidKinds := [.data, .pinned], laidTests := true, laidLooks := .later }
def DnsDecodesUptoCardSaid : Prop := Claim7.holds Tryd.pinned (.plain (OpenSpec.upto dnsDecodesSpec)) dnsDecodesUptoCard

/-- THE SECOND FORM's CARD OF 'intrusionlaw29.DnsEncodes'. -/
def dnsEncodesUptoCard : Claim7 := { stood := { row := dnsEncodesUptoRow, standIns := [], harness := (true, "1360903df229634e5ca42a94fa1cfb1d1055e09736cdc0932e2d414fd64fe1b9"), looks := false }, kinds := [], alts := [], laidByText := true, laidKinds := [.data, .pinned], laidTests := true, laidLooks := .later }
def DnsEncodesUptoCardSaid : Prop := Claim7.holds Tryd.pinned (.plain (OpenSpec.upto dnsEncodesSpec)) dnsEncodesUptoCard

/-- THE SECOND FORM's CARD OF 'intrusionlaw29.DnsRoundTrip'. -/
def dnsRoundTripUptoCard : Claim7 := { stood := { row := dnsRoundTripUptoRow, standIns := [], harness := (true, "1360903df229634e5ca42a94fa1cfb1d1055e09736cdc0932e2d414fd64fe1b9"), looks := false }, kinds := [], alts := [], laidByText := true, laidKinds := [.data, .pinned], laidTests := true, laidLooks := .later }
def DnsRoundTripUptoCardSaid : Prop := Claim7.holds Tryd.pinned (.plain (OpenSpec.upto dnsRoundTripSpec)) dnsRoundTripUptoCard

/-- THE SECOND FORM's CARD OF 'intrusionlaw29.DnsAccepts'. -/
def dnsAcceptsUptoCard : Claim7 := { stood := { row := dnsAcceptsUptoRow, standIns := [], harness := (true, "1360903df229634e5ca42a94fa1cfb1d1055e09736cdc0932e2d414fd64fe1b9"), looks := false }, kinds := [], alts := [], laidByText := true, laidKinds := [.data, .pinned], laidTests := true, laidLooks := .later }
def DnsAcceptsUptoCardSaid : Prop := Claim7.holds Tryd.pinned (.plain (OpenSpec.upto dnsAcceptsSpec)) dnsAcceptsUptoCard

/-- THE SECOND FORM's CARD OF 'intrusionlaw29.DnsStreams'. -/
def dnsStreamsUptoCard : Claim7 := { stood := { row := dnsStreamsUptoRow, standIns := [], harness := (true, "1360903df229634e5ca42a94fa1cfb1d1055e09736cdc0932e2d414fd64fe1b9"), looks := false }, kinds := [], alts := [], laidByText := true, laidKinds := [.data, .pinned], laidTests := true, laidLooks := .later }
def DnsStreamsUptoCardSaid : Prop := Claim7.holds Tryd.pinned (.plain (OpenSpec.upto dnsStreamsSpec)) dnsStreamsUptoCard

/-- THE SECOND FORM's CARD OF 'intrusionlaw29.DnsPieces'. -/
def dnsPiecesUptoCard : Claim7 := { stood := { row := dnsPiecesUptoRow, standIns := [], harness := (true, "1360903df229634e5ca42a94fa1cfb1d1055e09736cdc0932e2d414fd64fe1b9"), looks := false }, kinds := [], alts := [], laidByText := true, laidKinds := [.data, .pinned], laidTests := true, laidLooks := .later }
def DnsPiecesUptoCardSaid : Prop := Claim7.holds Tryd.pinned (.plain (OpenSpec.upto dnsPiecesSpec)) dnsPiecesUptoCard
end Rows
end Go.Proofs.YtmjbcnbjedipdaaDoor
