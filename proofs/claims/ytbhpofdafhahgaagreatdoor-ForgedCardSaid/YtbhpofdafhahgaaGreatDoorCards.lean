/-
  DERIVED. GIVEN WITH THE SEED: THE CARDS: each row of YtbhpofdafhahgaaGreatDoorRows.lean that lists a variable, with what it lists TIED to the program's text (the seventh form; the later family's looks); each row that meets fmt, with fmt's text TOLD by the authors' own Lean function (tested against real Go, not proved from fmt's source: count such statements apart). THE CARD IS WHAT COUNTS. Prove the row's statement (the work); the ties are given (YtbhpofdafhahgaaGreatDoorTie.lean); close each card by the builder's one call (the guide's Derived/Test/ToyasCard.lean, 'card_holds'). Laid BY PROGRAM, IN A SANDBOX (cutbox-door.mjs). By AI agents, Wed Nov 11 2026. No macro, syntax, notation, axiom, sorry.
-/
import Derived.Test.YtbhpofdafhahgaaGreatDoorRows
import GoSem.ClaimSeven
namespace Go.Proofs.YtbhpofdafhahgaaGreatDoor
namespace Rows

/-- THE TIED CARD OF 'daybookkeep.Shown'. -/
def shownCard : Claim7 := { stood := { row := shownRow, standIns := [], harness := (true, "7ffc642d38bf483a97f2f70e6c4c5ea79eaac41450bc50bc6b2b9176c0214bfe"), looks := true }, kinds := [], alts := [], laidByText := true, laidKinds := [.handle, .data], laidTests := true, laidLooks := .later }
def ShownCardSaid : Prop := Claim7.holds Tryz.pinned (.plain (OpenSpec.ofChange shownSpec)) shownCard

/-- THE TIED CARD OF 'daybookkeep.Undone'. -/
def undoneCard : Claim7 := { stood := { row := undoneRow, standIns := [], harness := (true, "7ffc642d38bf483a97f2f70e6c4c5ea79eaac41450bc50bc6b2b9176c0214bfe"), looks := true }, kinds := [], alts := [], laidByText := true, laidKinds := [.handle, .data], laidTests := true, laidLooks := .later }
def UndoneCardSaid : Prop := Claim7.holds Tryz.pinned (.plain (OpenSpec.ofChange undoneSpec)) undoneCard

/-- THE TIED CARD OF 'daybookkeep.Forged'. -/
def forgedCard : Claim7 := { stood := { row := forgedRow, standIns := [], harness := (true, "7ffc642d38bf483a97f2f70e6c4c5ea79eaac41450bc50bc6b2b9176c0214bfe"), looks := true }, kinds := [], alts := [], laidByText := true, laidKinds := [.handle, .data], laidTests := true, laidLooks := .later }
def ForgedCardSaid : Prop := Claim7.holds Tryz.pinned (.plain (OpenSpec.ofChange forgedSpec)) forgedCard

/-- THE TIED CARD OF 'daybookkeep.Grown'. -/
def grownCard : Claim7 := { stood := { row := grownRow, standIns := [], harness := (true, "7ffc642d38bf483a97f2f70e6c4c5ea79eaac41450bc50bc6b2b9176c0214bfe"), looks := true }, kinds := [], alts := [], laidByText := true, laidKinds := [.handle, .data], laidTests := true, laidLooks := .later }
def GrownCardSaid : Prop := Claim7.holds Tryz.pinned (.plain (OpenSpec.ofChange grownSpec)) grownCard

/-- THE SECOND FORM's CARD OF 'daybookkeep.Shown'. -/
def shownUptoCard : Claim7 := { stood := { row := shownUptoRow, standIns := [], harness := (true, "7ffc642d38bf483a97f2f70e6c4c5ea79eaac41450bc50bc6b2b9176c0214bfe"), looks := true }, kinds := [], alts := [], laidByText := true, laidKinds := [.handle, .data], laidTests := true, laidLooks := .later }
def ShownUptoCardSaid : Prop := Claim7.holds Tryz.pinned (.plain (OpenSpec.upto shownSpec)) shownUptoCard

/-- THE SECOND FORM's CARD OF 'daybookkeep.Undone'. -/
def undoneUptoCard : Claim7 := { stood := { row := undoneUptoRow, standIns := [], harness := (true, "7ffc642d38bf483a97f2f70e6c4c5ea79eaac41450bc50bc6b2b9176c0214bfe"), looks := true }, kinds := [], alts := [], laidByText := true, laidKinds := [.handle, .data], laidTests := true, laidLooks := .later }
def UndoneUptoCardSaid : Prop := Claim7.holds Tryz.pinned (.plain (OpenSpec.upto undoneSpec)) undoneUptoCard

/-- THE SECOND FORM's CARD OF 'daybookkeep.Forged'. -/
def forgedUptoCard : Claim7 := { stood := { row := forgedUptoRow, standIns := [], harness := (true, "7ffc642d38bf483a97f2f70e6c4c5ea79eaac41450bc50bc6b2b9176c0214bfe"), looks := true }, kinds := [], alts := [], laidByText := true, laidKinds := [.handle, .data], laidTests := true, laidLooks := .later }
def ForgedUptoCardSaid : Prop := Claim7.holds Tryz.pinned (.plain (OpenSpec.upto forgedSpec)) forgedUptoCard

/-- THE SECOND FORM's CARD OF 'daybookkeep.Grown'. -/
def grownUptoCard : Claim7 := { stood := { row := grownUptoRow, standIns := [], harness := (true, "7ffc642d38bf483a97f2f70e6c4c5ea79eaac41450bc50bc6b2b9176c0214bfe"), looks := true }, kinds := [], alts := [], laidByText := true, laidKinds := [.handle, .data], laidTests := true, laidLooks := .later }
def GrownUptoCardSaid : Prop := Claim7.holds Tryz.pinned (.plain (OpenSpec.upto grownSpec)) grownUptoCard
end Rows
end Go.Proofs.YtbhpofdafhahgaaGreatDoor
