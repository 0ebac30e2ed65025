/-
  DERIVED. GIVEN WITH THE SEED: THE CARDS: each row of YtjmfpeiidlpngaaGreatDoorRows.lean that lists a variable, with what it lists TIED to the program's text (the seventh form; the later family's looks); each row that meets fmt, with fmt's text TOLD by the authors' own Lean function (tested against real Go, not proved from fmt's source: count such statements apart). THE CARD IS WHAT COUNTS. Prove the row's statement (the work); the ties are given (YtjmfpeiidlpngaaGreatDoorTie.lean); close each card by the builder's one call (the guide's Derived/Test/ToyasCard.lean, 'card_holds'). Laid BY PROGRAM, IN A SANDBOX (cutbox-door.mjs). By AI agents, Wed Nov 11 2026. No macro, syntax, notation, axiom, sorry.
-/
import Derived.Test.YtjmfpeiidlpngaaGreatDoorRows
import GoSem.ClaimSeven
namespace Go.Proofs.YtjmfpeiidlpngaaGreatDoor
namespace Rows

/-- THE TIED CARD OF 'intrusionlaw47.RulesetScans'. -/
def rulesetScansCard : Claim7 := { stood := { row := rulesetScansRow, standIns := [], harness := (true, "5e104a27cbbb9a9f702d2c67a6526b429eab3fb5f9ff9b91391d8179eab60239"), looks := false }, kinds := [], alts := [], laidByText := true, laidKinds := [.data, .pinned], laidTests := true, laidLooks := .later }
def RulesetScansCardSaid : Prop := Claim7.holds Tryz.pinned (.plain (OpenSpec.ofChange rulesetScansSpec)) rulesetScansCard

/-- THE TIED CARD OF 'intrusionlaw47.RulesetCompiles'. -/
def rulesetCompilesCard : Claim7 := { stood := { row := rulesetCompilesRow, standIns := [], harness := (true, "5e104a27cbbb9a9f702d2c67a6526b429eab3fb5f9ff9b91391d8179eab60239"), looks := false }, kinds := [], alts := [], laidByText := true, laidKinds := [.data, .pinned], laidTests := true, laidLooks := .later }
def RulesetCompilesCardSaid : Prop := Claim7.holds Tryz.pinned (.plain (OpenSpec.ofChange rulesetCompilesSpec)) rulesetCompilesCard

/-- THE TIED CARD OF 'intrusionlaw47.RulesetSelects'. -/
def rulesetSelectsCard : Claim7 := { stood := { row := rulesetSelectsRow, standIns := [], harness := (true, "5e104a27cbbb9a9f702d2c67a6526b429eab3fb5f9ff9b91391d8179eab60239"), looks := false }, kinds := [], alts := [], laidByText := true, laidKinds := [.data, .pinned], laidTests := true, laidLooks := .later }
def RulesetSelectsCardSaid : Prop := Claim7.holds Tryz.pinned (.plain (OpenSpec.ofChange rulesetSelectsSpec)) rulesetSelectsCard

/-- THE TIED CARD OF 'intrusionlaw47.RulesetSuperset'. -/
def rulesetSupersetCard : Claim7 := { stood := { row := rulesetSupersetRow, standIns := [], harness := (true, "5e104a27cbbb9a9f702d2c67a6526b429eab3fb5f9ff9b91391d8179eab60239"), looks := false }, kinds := [], alts := [], laidByText := true, laidKinds := [.data, .pinned], laidTests := true, laidLooks := .later }
def RulesetSupersetCardSaid : Prop := Claim7.holds Tryz.pinned (.plain (OpenSpec.ofChange rulesetSupersetSpec)) rulesetSupersetCard

/-- THE SECOND FORM's CARD OF 'intrusionlaw47.RulesetScans'. -/
def rulesetScansUptoCard : Claim7 := { stood := { row := rulesetScansUptoRow, standIns := [], harness := (true, "5e104a27cbbb9a9f702d2c67a6526b429eab3fb5f9ff9b91391d8179eab60239"), looks := false }, kinds := [], alts := [], laidByText := true, laidKinds := [.data, .pinned], laidTests := true, laidLooks := .later }
def RulesetScansUptoCardSaid : Prop := Claim7.holds Tryz.pinned (.plain (OpenSpec.upto rulesetScansSpec)) rulesetScansUptoCard

/-- THE SECOND FORM's CARD OF 'intrusionlaw47.RulesetCompiles'. -/
def rulesetCompilesUptoCard : Claim7 := { stood := { row := rulesetCompilesUptoRow, standIns := [], harness := (true, "5e104a27cbbb9a9f702d2c67a6526b429eab3fb5f9ff9b91391d8179eab60239"), looks := false }, kinds := [], alts := [], laidByText := true, laidKinds := [.data, .pinned], laidTests := true, laidLooks := .later }
def RulesetCompilesUptoCardSaid : Prop := Claim7.holds Tryz.pinned (.plain (OpenSpec.upto rulesetCompilesSpec)) rulesetCompilesUptoCard

/-- THE SECOND FORM's CARD OF 'intrusionlaw47.RulesetSelects'. -/
def rulesetSelectsUptoCard : Claim7 := { stood := { row := rulesetSelectsUptoRow, standIns := [], harness := (true, "5e104a27cbbb9a9f702d2c67a6526b429eab3fb5f9ff9b91391d8179eab60239"), looks := false }, kinds := [], alts := [], laidByText := true, laidKinds := [.data, .pinned], laidTests := true, laidLooks := .later }
def RulesetSelectsUptoCardSaid : Prop := Claim7.holds Tryz.pinned (.plain (OpenSpec.upto rulesetSelectsSpec)) rulesetSelectsUptoCard

/-- THE SECOND FORM's CARD OF 'intrusionlaw47.RulesetSuperset'. -/
def rulesetSupersetUptoCard : Claim7 := { stood := { row := rulesetSupersetUptoRow, standIns := [], harness := (true, "5e104a27cbbb9a9f702d2c67a6526b429eab3fb5f9ff9b91391d8179eab60239"), looks := false }, kinds := [], alts := [], laidByText := true, laidKinds := [.data, .pinned], laidTests := true, laidLooks := .later }
def RulesetSupersetUptoCardSaid : Prop := Claim7.holds Tryz.pinned (.plain (OpenSpec.upto rulesetSupersetSpec)) rulesetSupersetUptoCard
end Rows
end Go.Proofs.YtjmfpeiidlpngaaGreatDoor
