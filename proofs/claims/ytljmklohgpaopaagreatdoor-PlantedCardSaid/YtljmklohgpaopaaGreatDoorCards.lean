/-
  DERIVED. GIVEN WITH THE SEED: THE CARDS: each row of YtljmklohgpaopaaGreatDoorRows.lean that lists a variable, with what it lists TIED to the program's text (the seventh form; the later family's looks); each row that meets fmt, with fmt's text TOLD by the authors' own Lean function (tested against real Go, not proved from fmt's source: count such statements apart). THE CARD IS WHAT COUNTS. Prove the row's statement (the work); the ties are given (YtljmklohgpaopaaGreatDoorTie.lean); close each card by the builder's one call (the guide's Derived/Test/ToyasCard.lean, 'card_holds'). Laid BY PROGRAM, IN A SANDBOX (cutbox-door.mjs). By AI agents, Wed Nov 11 2026. No macro, syntax, notation, axiom, sorry.
-/
import Derived.Test.YtljmklohgpaopaaGreatDoorRows
import GoSem.ClaimSeven
namespace Go.Proofs.YtljmklohgpaopaaGreatDoor
namespace Rows

/-- THE TIED CARD OF 'daybooklaw.Clashes'. -/
def clashesCard : Claim7 := { stood := { row := clashesRow, standIns := [], harness := (true, "6837329014dc353e1539f86b6df9bbea084819757e0364d4843d226d06b53a51"), looks := true }, kinds := [], alts := [], laidByText := true, laidKinds := [.handle], laidTests := true, laidLooks := .later }
def ClashesCardSaid : Prop := Claim7.holds Tryz.pinned (.plain (OpenSpec.ofChange clashesSpec)) clashesCard

/-- THE TIED CARD OF 'daybookkeep.Lean'. -/
def leanCard : Claim7 := { stood := { row := leanRow, standIns := [], harness := (true, "6837329014dc353e1539f86b6df9bbea084819757e0364d4843d226d06b53a51"), looks := true }, kinds := [], alts := [], laidByText := true, laidKinds := [.handle, .data], laidTests := true, laidLooks := .later }
def LeanCardSaid : Prop := Claim7.holds Tryz.pinned (.plain (OpenSpec.ofChange leanSpec)) leanCard

/-- THE TIED CARD OF 'daybooklaw.Trees'. -/
def treesCard : Claim7 := { stood := { row := treesRow, standIns := [], harness := (true, "6837329014dc353e1539f86b6df9bbea084819757e0364d4843d226d06b53a51"), looks := true }, kinds := [], alts := [], laidByText := true, laidKinds := [.handle, .data], laidTests := true, laidLooks := .later }
def TreesCardSaid : Prop := Claim7.holds Tryz.pinned (.plain (OpenSpec.ofChange treesSpec)) treesCard

/-- THE TIED CARD OF 'daybookkeep.Planted'. -/
def plantedCard : Claim7 := { stood := { row := plantedRow, standIns := [], harness := (true, "6837329014dc353e1539f86b6df9bbea084819757e0364d4843d226d06b53a51"), looks := true }, kinds := [], alts := [], laidByText := true, laidKinds := [.handle, .data], laidTests := true, laidLooks := .later }
def PlantedCardSaid : Prop := Claim7.holds Tryz.pinned (.plain (OpenSpec.ofChange plantedSpec)) plantedCard

/-- THE SECOND FORM's CARD OF 'daybooklaw.Clashes'. -/
def clashesUptoCard : Claim7 := { stood := { row := clashesUptoRow, standIns := [], harness := (true, "6837329014dc353e1539f86b6df9bbea084819757e0364d4843d226d06b53a51"), looks := true }, kinds := [], alts := [], laidByText := true, laidKinds := [.handle], laidTests := true, laidLooks := .later }
def ClashesUptoCardSaid : Prop := Claim7.holds Tryz.pinned (.plain (OpenSpec.upto clashesSpec)) clashesUptoCard

/-- THE SECOND FORM's CARD OF 'daybookkeep.Lean'. -/
def leanUptoCard : Claim7 := { stood := { row := leanUptoRow, standIns := [], harness := (true, "6837329014dc353e1539f86b6df9bbea084819757e0364d4843d226d06b53a51"), looks := true }, kinds := [], alts := [], laidByText := true, laidKinds := [.handle, .data], laidTests := true, laidLooks := .later }
def LeanUptoCardSaid : Prop := Claim7.holds Tryz.pinned (.plain (OpenSpec.upto leanSpec)) leanUptoCard

/-- THE SECOND FORM's CARD OF 'daybooklaw.Trees'. -/
def treesUptoCard : Claim7 := { stood := { row := treesUptoRow, standIns := [], harness := (true, "6837329014dc353e1539f86b6df9bbea084819757e0364d4843d226d06b53a51"), looks := true }, kinds := [], alts := [], laidByText := true, laidKinds := [.handle, .data], laidTests := true, laidLooks := .later }
def TreesUptoCardSaid : Prop := Claim7.holds Tryz.pinned (.plain (OpenSpec.upto treesSpec)) treesUptoCard

/-- THE SECOND FORM's CARD OF 'daybookkeep.Planted'. -/
def plantedUptoCard : Claim7 := { stood := { row := plantedUptoRow, standIns := [], harness := (true, "6837329014dc353e1539f86b6df9bbea084819757e0364d4843d226d06b53a51"), looks := true }, kinds := [], alts := [], laidByText := true, laidKinds := [.handle, .data], laidTests := true, laidLooks := .later }
def PlantedUptoCardSaid : Prop := Claim7.holds Tryz.pinned (.plain (OpenSpec.upto plantedSpec)) plantedUptoCard
end Rows
end Go.Proofs.YtljmklohgpaopaaGreatDoor
