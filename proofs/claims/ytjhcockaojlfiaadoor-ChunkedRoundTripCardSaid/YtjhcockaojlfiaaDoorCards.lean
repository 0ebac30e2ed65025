/-
  DERIVED. GIVEN WITH THE SEED: THE CARDS: each row of YtjhcockaojlfiaaDoorRows.lean that lists a variable, with what it lists TIED to the program's text (the seventh form; the later family's looks); each row that meets fmt, with fmt's text TOLD by the authors' own Lean function (tested against real Go, not proved from fmt's source: count such statements apart). THE CARD IS WHAT COUNTS. Prove the row's statement (the work); the ties are given (YtjhcockaojlfiaaDoorTie.lean); close each card by the builder's one call (the guide's Derived/Test/ToyasCard.lean, 'card_holds'). Laid BY PROGRAM, IN A SANDBOX (cutbox-door.mjs). By AI agents, Wed Nov 11 2026. No macro, syntax, notation, axiom, sorry.
-/
import Derived.Test.YtjhcockaojlfiaaDoorRows
import GoSem.ClaimSeven
namespace Go.Proofs.YtjhcockaojlfiaaDoor
namespace Rows

/-- THE TIED CARD OF 'intrusionlaw27.ChunkedFeeds'. -/
def chunkedFeedsCard : Claim7 := { stood := { row := chunkedFeedsRow, standIns := [], harness := (true, "d5d6aac93f8d8cfcb25a3832249aa622d8751ce46dbd00e46842eb5f57d01f98"), looks := false }, kinds := [], alts := [], laidByText := true, laidKinds := [.data, .data, .data], laidTests := true, laidLooks := .later }
def ChunkedFeedsCardSaid : Prop := Claim7.holds Tryd.pinned (.plain (OpenSpec.ofChange chunkedFeedsSpec)) chunkedFeedsCard

/-- THE TIED CARD OF 'intrusionlaw27.ChunkedEncodes'. -/
def chunkedEncodesCard : Claim7 := { stood := { row := chunkedEncodesRow, standIns := [], harness := (true, "d5d6aac93f8d8cfcb25a3832249aa622d8751ce46dbd00e46842eb5f57d01f98"), looks := false }, kinds := [], alts := [], laidByText := true, laidKinds := [.data, .data, .data], laidTests := true, laidLooks := .later }
def ChunkedEncodesCardSaid : Prop := Claim7.holds Tryd.pinned (.plain (OpenSpec.ofChange chunkedEncodesSpec)) chunkedEncodesCard

/-- THE TIED CARD OF 'intrusionlaw27.ChunkedSplit'. -/
def chunkedSplitCard : Claim7 := { stood := { row := chunkedSplitRow, standIns := [], harness := (true, "d5d6aac93f8d8cfcb25a3832249aa622d8751ce46dbd00e46842eb5f57d01f98"), looks := false }, kinds := [], alts := [], laidByText := true, laidKinds := [.data, .data, .data], laidTests := true, laidLooks := .later }
def ChunkedSplitCardSaid : Prop := Claim7.holds Tryd.pinned (.plain (OpenSpec.ofChange chunkedSplitSpec)) chunkedSplitCard

/-- THE TIED CARD OF 'intrusionlaw27.ChunkedRoundTrip'. -/
def chunkedRoundTripCard : Claim7 := { stood := { row := chunkedRoundTripRow, standIns := [], harness := (true, "d5d6aac93f8d8cfcb25a3832249aa622d8751ce46dbd00e46842eb5f57d01f98"), looks := false }, kinds := [], alts := [], laidByText := true, laidKinds := [.data, .data, .data], laidTests := true, laidLooks := .later }
def ChunkedRoundTripCardSaid : Prop := Claim7.holds Tryd.pinned (.plain (OpenSpec.ofChange chunkedRoundTripSpec)) chunkedRoundTripCard

/-- THE TIED CARD OF 'intrusionlaw27.ChunkedStops'. -/
def chunkedStopsCard : Claim7 := { stood := { row := chunkedStopsRow, standIns := [], harness := (true, "d5d6aac93f8d8cfcb25a3832249aa622d8751ce46dbd00e46842eb5f57d01f98"), looks := false }, kinds := [], alts := [], laidByText := true, laidKinds := [.data, .data, .data], laidTests := true, laidLooks := .later }
def ChunkedStopsCardSaid : Prop := Claim7.holds Tryd.pinned (.plain (OpenSpec.ofChange chunkedStopsSpec)) chunkedStopsCard

/-- THE SECOND FORM's CARD OF 'intrusionlaw27.ChunkedFeeds'. -/
def chunkedFeedsUptoCard : Claim7 := { stood := { row := chunkedFeedsUptoRow, standIns := [], harness := (true, "d5d6aac93f8d8cfcb25a3832249aa622d8751ce46dbd00e46842eb5f57d01f98"), looks := false }, kinds := [], alts := [], laidByText := true, laidKinds := [.data, .data, .data], laidTests := true, laidLooks := .later }
def ChunkedFeedsUptoCardSaid : Prop := Claim7.holds Tryd.pinned (.plain (OpenSpec.upto chunkedFeedsSpec)) chunkedFeedsUptoCard

/-- THE SECOND FORM's CARD OF 'intrusionlaw27.ChunkedEncodes'. -/
def chunkedEncodesUptoCard : Claim7 := { stood := { row := chunkedEncodesUptoRow, standIns := [], harness := (true, "d5d6aac93f8d8cfcb25a3832249aa622d8751ce46dbd00e46842eb5f57d01f98"), looks := false }, kinds := [], alts := [], laidByText := true, laidKinds := [.data, .data, .data], laidTests := true, laidLooks := .later }
def ChunkedEncodesUptoCardSaid : Prop := Claim7.holds Tryd.pinned (.plain (OpenSpec.upto chunkedEncodesSpec)) chunkedEncodesUptoCard

/-- THE SECOND FORM's CARD OF 'intrusionlaw27.ChunkedSplit'. -/
def chunkedSplitUptoCard : Claim7 := { stood := { row := chunkedSplitUptoRow, standIns := [], harness := (true, "d5d6aac93f8d8cfcb25a3832249aa622d8751ce46dbd00e46842eb5f57d01f98"), looks := false }, kinds := [], alts := [], laidByText := true, laidKinds := [.data, .data, .data], laidTests := true, laidLooks := .later }
def ChunkedSplitUptoCardSaid : Prop := Claim7.holds Tryd.pinned (.plain (OpenSpec.upto chunkedSplitSpec)) chunkedSplitUptoCard

/-- THE SECOND FORM's CARD OF 'intrusionlaw27.ChunkedRoundTrip'. -/
def chunkedRoundTripUptoCard : Claim7 := { stood := { row := chunkedRoundTripUptoRow, standIns := [], harness := (true, "d5d6aac93f8d8cfcb25a3832249aa622d8751ce46dbd00e46842eb5f57d01f98"), looks := false }, kinds := [], alts := [], laidByText := true, laidKinds := [.data, .data, .data], laidTests := true, laidLooks := .later }
def ChunkedRoundTripUptoCardSaid : Prop := Claim7.holds Tryd.pinned (.plain (OpenSpec.upto chunkedRoundTripSpec)) chunkedRoundTripUptoCard

/-- THE SECOND FORM's CARD OF 'intrusionlaw27.ChunkedStops'. -/
def chunkedStopsUptoCard : Claim7 := { stood := { row := chunkedStopsUptoRow, standIns := [], harness := (true, "d5d6aac93f8d8cfcb25a3832249aa622d8751ce46dbd00e46842eb5f57d01f98"), looks := false }, kinds := [], alts := [], laidByText := true, laidKinds := [.data, .data, .data], laidTests := true, laidLooks := .later }
def ChunkedStopsUptoCardSaid : Prop := Claim7.holds Tryd.pinned (.plain (OpenSpec.upto chunkedStopsSpec)) chunkedStopsUptoCard
end Rows
end Go.Proofs.YtjhcockaojlfiaaDoor
