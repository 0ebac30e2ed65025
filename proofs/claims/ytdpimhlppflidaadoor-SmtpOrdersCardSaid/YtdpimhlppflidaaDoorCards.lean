/-
  DERIVED. GIVEN WITH THE SEED: THE CARDS: each row of YtdpimhlppflidaaDoorRows.lean that lists a variable, with what it lists TIED to the program's text (the seventh form; the later family's looks); each row that meets fmt, with fmt's text TOLD by the authors' own Lean function (tested against real Go, not proved from fmt's source: count such statements apart). THE CARD IS WHAT COUNTS. Prove the row's statement (the work); the ties are given (YtdpimhlppflidaaDoorTie.lean); close each card by the builder's one call (the guide's Derived/Test/ToyasCard.lean, 'card_holds'). Laid BY PROGRAM, IN A SANDBOX (cutbox-door.mjs). By AI agents, Wed Nov 11 2026. No macro, syntax, notation, axiom, sorry.
-/
import Derived.Test.YtdpimhlppflidaaDoorRows
import GoSem.ClaimSeven
namespace Go.Proofs.YtdpimhlppflidaaDoor
namespace Rows

/-- THE TIED CARD OF 'intrusionlaw30.SmtpFeeds'. -/
def smtpFeedsCard : Claim7 := { stood := { row := smtpFeedsRow, standIns := [], harness := (true, "fa8fdc1a51cb1b2aab6a03945e2d6aa5c68de452b8f5e5363ad64e62f7b1372f"), looks := true }, kinds := [], alts := [], laidByText := true, laidKinds := [.data, .pinned, .pinned], laidTests := true, laidLooks := .later }
def SmtpFeedsCardSaid : Prop := Claim7.holds Tryd.pinned (.plain (OpenSpec.ofChange smtpFeedsSpec)) smtpFeedsCard

/-- THE TIED CARD OF 'intrusionlaw30.SmtpLists'. -/
def smtpListsCard : Claim7 := { stood := { row := smtpListsRow, standIns := [], harness := (true, "fa8fdc1a51cb1b2aab6a03945e2d6aa5c68de452b8f5e5363ad64e62f7b1372f"), looks := true }, kinds := [], alts := [], laidByText := true, laidKinds := [.data, .pinned, .pinned], laidTests := true, laidLooks := .later }
def SmtpListsCardSaid : Prop := Claim7.holds Tryd.pinned (.plain (OpenSpec.ofChange smtpListsSpec)) smtpListsCard

/-- THE TIED CARD OF 'intrusionlaw30.SmtpPending'. -/
def smtpPendingCard : Claim7 := { stood := { row := smtpPendingRow, standIns := [], harness := (true, "fa8fdc1a51cb1b2aab6a03945e2d6aa5c68de452b8f5e5363ad64e62f7b1372f"), looks := true }, kinds := [], alts := [], laidByText := true, laidKinds := [.data, .pinned, .pinned], laidTests := true, laidLooks := .later }
def SmtpPendingCardSaid : Prop := Claim7.holds Tryd.pinned (.plain (OpenSpec.ofChange smtpPendingSpec)) smtpPendingCard

/-- THE TIED CARD OF 'intrusionlaw30.SmtpOrders'. -/
def smtpOrdersCard : Claim7 := { stood := { row := smtpOrdersRow, standIns := [], harness := (true, "fa8fdc1a51cb1b2aab6a03945e2d6aa5c68de452b8f5e5363ad64e62f7b1372f"), looks := true }, kinds := [], alts := [], laidByText := true, laidKinds := [.data, .pinned, .pinned], laidTests := true, laidLooks := .later }
def SmtpOrdersCardSaid : Prop := Claim7.holds Tryd.pinned (.plain (OpenSpec.ofChange smtpOrdersSpec)) smtpOrdersCard

/-- THE TIED CARD OF 'intrusionlaw30.SmtpMails'. -/
def smtpMailsCard : Claim7 := { stood := { row := smtpMailsRow, standIns := [], harness := (true, "fa8fdc1a51cb1b2aab6a03945e2d6aa5c68de452b8f5e5363ad64e62f7b1372f"), looks := true }, kinds := [], alts := [], laidByText := true, laidKinds := [.data, .pinned, .pinned], laidTests := true, laidLooks := .later }
def SmtpMailsCardSaid : Prop := Claim7.holds Tryd.pinned (.plain (OpenSpec.ofChange smtpMailsSpec)) smtpMailsCard

/-- THE TIED CARD OF 'intrusionlaw30.SmtpCovered'. -/
def smtpCoveredCard : Claim7 := { stood := { row := smtpCoveredRow, standIns := [], harness := (true, "fa8fdc1a51cb1b2aab6a03945e2d6aa5c68de452b8f5e5363ad64e62f7b1372f"), looks := true }, kinds := [], alts := [], laidByText := true, laidKinds := [.data, .pinned, .pinned], laidTests := true, laidLooks := .later }
def SmtpCoveredCardSaid : Prop := Claim7.holds Tryd.pinned (.plain (OpenSpec.ofChange smtpCoveredSpec)) smtpCoveredCard

/-- THE SECOND FORM's CARD OF 'intrusionlaw30.SmtpFeeds'. -/
def smtpFeedsUptoCard : Claim7 := { stood := { row := smtpFeedsUptoRow, standIns := [], harness := (true, "fa8fdc1a51cb1b2aab6a03945e2d6aa5c68de452b8f5e5363ad64e62f7b1372f"), looks := true }, kinds := [], alts := [], laidByText := true, laidKinds := [.data, .pinned, .pinned], laidTests := true, laidLooks := .later }
def SmtpFeedsUptoCardSaid : Prop := Claim7.holds Tryd.pinned (.plain (OpenSpec.upto smtpFeedsSpec)) smtpFeedsUptoCard

/-- THE SECOND FORM's CARD OF 'intrusionlaw30.SmtpLists'. -/
def smtpListsUptoCard : Claim7 := { stood := { row := smtpListsUptoRow, standIns := [], harness := (true, "fa8fdc1a51cb1b2aab6a03945e2d6aa5c68de452b8f5e5363ad64e62f7b1372f"), looks := true }, kinds := [], alts := [], laidByText := true, laidKinds := [.data, .pinned, .pinned], laidTests := true, laidLooks := .later }
def SmtpListsUptoCardSaid : Prop := Claim7.holds Tryd.pinned (.plain (OpenSpec.upto smtpListsSpec)) smtpListsUptoCard

/-- THE SECOND FORM's CARD OF 'intrusionlaw30.SmtpPending'. -/
def smtpPendingUptoCard : Claim7 := { stood := { row := smtpPendingUptoRow, standIns := [], harness := (true, "fa8fdc1a51cb1b2aab6a03945e2d6aa5c68de452b8f5e5363ad64e62f7b1372f"), looks := true }, kinds := [], alts := [], laidByText := true, laidKinds := [.data, .pinned, .pinned], laidTests := true, laidLooks := .later }
def SmtpPendingUptoCardSaid : Prop := Claim7.holds Tryd.pinned (.plain (OpenSpec.upto smtpPendingSpec)) smtpPendingUptoCard

/-- THE SECOND FORM's CARD OF 'intrusionlaw30.SmtpOrders'. -/
def smtpOrdersUptoCard : Claim7 := { stood := { row := smtpOrdersUptoRow, standIns := [], harness := (true, "fa8fdc1a51cb1b2aab6a03945e2d6aa5c68de452b8f5e5363ad64e62f7b1372f"), looks := true }, kinds := [], alts := [], laidByText := true, laidKinds := [.data, .pinned, .pinned], laidTests := true, laidLooks := .later }
def SmtpOrdersUptoCardSaid : Prop := Claim7.holds Tryd.pinned (.plain (OpenSpec.upto smtpOrdersSpec)) smtpOrdersUptoCard

/-- THE SECOND FORM's CARD OF 'intrusionlaw30.SmtpMails'. -/
def smtpMailsUptoCard : Claim7 := { stood := { row := smtpMailsUptoRow, standIns := [], harness := (true, "fa8fdc1a51cb1b2aab6a03945e2d6aa5c68de452b8f5e5363ad64e62f7b1372f"), looks := true }, kinds := [], alts := [], laidByText := true, laidKinds := [.data, .pinned, .pinned], laidTests := true, laidLooks := .later }
def SmtpMailsUptoCardSaid : Prop := Claim7.holds Tryd.pinned (.plain (OpenSpec.upto smtpMailsSpec)) smtpMailsUptoCard

/-- THE SECOND FORM's CARD OF 'intrusionlaw30.SmtpCovered'. -/
def smtpCoveredUptoCard : Claim7 := { stood := { row := smtpCoveredUptoRow, standIns := [], harness := (true, "fa8fdc1a51cb1b2aab6a03945e2d6aa5c68de452b8f5e5363ad64e62f7b1372f"), looks := true }, kinds := [], alts := [], laidByText := true, laidKinds := [.data, .pinned, .pinned], laidTests := true, laidLooks := .later }
def SmtpCoveredUptoCardSaid : Prop := Claim7.holds Tryd.pinned (.plain (OpenSpec.upto smtpCoveredSpec)) smtpCoveredUptoCard
end Rows
end Go.Proofs.YtdpimhlppflidaaDoor
