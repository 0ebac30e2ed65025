/-
  DERIVED. GIVEN WITH THE SEED: THE CARDS: each row of YthnheldoklgceaaDoorRows.lean that lists a variable, with what it lists TIED to the program's text (the seventh form; the later family's looks); each row that meets fmt, with fmt's text TOLD by the authors' own Lean function (tested against real Go, not proved from fmt's source: count such statements apart). THE CARD IS WHAT COUNTS. Prove the row's statement (the work); the ties are given (YthnheldoklgceaaDoorTie.lean); close each card by the builder's one call (the guide's Derived/Test/ToyasCard.lean, 'card_holds'). Laid BY PROGRAM, IN A SANDBOX (cutbox-door.mjs). By AI agents, Wed Nov 11 2026. No macro, syntax, notation, axiom, sorry.
-/
import Derived.Test.YthnheldoklgceaaDoorRows
import GoSem.ClaimSeven
namespace Go.Proofs.YthnheldoklgceaaDoor
namespace Rows

/-- THE TIED CARD OF 'intrusionlaw45.AutomatonPlants'. -/
def automatonPlantsCard : Claim7 := { stood := { row := automatonPlantsRow, standIns := [], harness := (true, "84bdb55e2a18948abf683597fb1ca7c891639a8870d897b9175046e44b8f5a16"), looks := false }, kinds := [], alts := [], laidByText := true, laidKinds := [.data, .pinned], laidTests := true, laidLooks := .later }
def AutomatonPlantsCardSaid : Prop := Claim7.holds Tryd.pinned (.plain (OpenSpec.ofChange automatonPlantsSpec)) automatonPlantsCard

/-- THE TIED CARD OF 'intrusionlaw45.AutomatonExact'. -/
def automatonExactCard : Claim7 := { stood := { row := automatonExactRow, standIns := [], harness := (true, "84bdb55e2a18948abf683597fb1ca7c891639a8870d897b9175046e44b8f5a16"), looks := false }, kinds := [], alts := [], laidByText := true, laidKinds := [.data, .pinned], laidTests := true, laidLooks := .later }
def AutomatonExactCardSaid : Prop := Claim7.holds Tryd.pinned (.plain (OpenSpec.ofChange automatonExactSpec)) automatonExactCard

/-- THE SECOND FORM's CARD OF 'intrusionlaw45.AutomatonPlants'. -/
def automatonPlantsUptoCard : Claim7 := { stood := { row := automatonPlantsUptoRow, standIns := [], harness := (true, "84bdb55e2a18948abf683597fb1ca7c891639a8870d897b9175046e44b8f5a16"), looks := false }, kinds := [], alts := [], laidByText := true, laidKinds := [.data, .pinned], laidTests := true, laidLooks := .later }
def AutomatonPlantsUptoCardSaid : Prop := Claim7.holds Tryd.pinned (.plain (OpenSpec.upto automatonPlantsSpec)) automatonPlantsUptoCard

/-- THE SECOND FORM's CARD OF 'intrusionlaw45.AutomatonExact'. -/
def automatonExactUptoCard : Claim7 := { stood := { row := automatonExactUptoRow, standIns := [], harness := (true, "84bdb55e2a18948abf683597fb1ca7c891639a8870d897b9175046e44b8f5a16"), looks := false }, kinds := [], alts := [], laidByText := true, laidKinds := [.data, .pinned], laidTests := true, laidLooks := .later }
def AutomatonExactUptoCardSaid : Prop := Claim7.holds Tryd.pinned (.plain (OpenSpec.upto automatonExactSpec)) automatonExactUptoCard
end Rows
end Go.Proofs.YthnheldoklgceaaDoor
