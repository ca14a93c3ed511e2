/-
  DERIVED. GIVEN WITH THE SEED: THE CARDS: each row of YtdiainkokgpldaaDoorRows.lean that lists a variable, with what it lists TIED to the program's text (the seventh form; the later family's looks); each row that meets fmt, with fmt's text TOLD by the authors' own Lean function (tested against real Go, not proved from fmt's source: count such statements apart). THE CARD IS WHAT COUNTS. Prove the row's statement (the work); the ties are given (YtdiainkokgpldaaDoorTie.lean); close each card by the builder's one call (the guide's Derived/Test/ToyasCard.lean, 'card_holds'). Laid BY PROGRAM, IN A SANDBOX (cutbox-door.mjs). By AI agents, Wed Nov 11 2026. No macro, syntax, notation, axiom, sorry.
-/
import Derived.Test.YtdiainkokgpldaaDoorRows
import GoSem.ClaimSeven
namespace Go.Proofs.YtdiainkokgpldaaDoor
namespace Rows

/-- THE TIED CARD OF 'daybooklaw.Names'. -/
def namesCard : Claim7 := { stood := { row := namesRow, standIns := [], harness := (true, "eb9d18b5506bfa41cf71f634c97e5a4349adad6d8ea534b438dc0438dd52ec0f"), looks := true }, kinds := [], alts := [], laidByText := true, laidKinds := [.handle], laidTests := true, laidLooks := .later }
def NamesCardSaid : Prop := Claim7.holds Tryd.pinned (.plain (OpenSpec.ofChange namesSpec)) namesCard

/-- THE TIED CARD OF 'daybooklaw.Roots'. -/
def rootsCard : Claim7 := { stood := { row := rootsRow, standIns := [], harness := (true, "eb9d18b5506bfa41cf71f634c97e5a4349adad6d8ea534b438dc0438dd52ec0f"), looks := true }, kinds := [], alts := [], laidByText := true, laidKinds := [.handle], laidTests := true, laidLooks := .later }
def RootsCardSaid : Prop := Claim7.holds Tryd.pinned (.plain (OpenSpec.ofChange rootsSpec)) rootsCard

/-- THE TIED CARD OF 'daybookkeep.Climbed'. -/
def climbedCard : Claim7 := { stood := { row := climbedRow, standIns := [], harness := (true, "eb9d18b5506bfa41cf71f634c97e5a4349adad6d8ea534b438dc0438dd52ec0f"), looks := true }, kinds := [], alts := [], laidByText := true, laidKinds := [.handle], laidTests := true, laidLooks := .later }
def ClimbedCardSaid : Prop := Claim7.holds Tryd.pinned (.plain (OpenSpec.ofChange climbedSpec)) climbedCard

/-- THE TIED CARD OF 'daybooklaw.Proofs'. -/
def proofsCard : Claim7 := { stood := { row := proofsRow, standIns := [], harness := (true, "eb9d18b5506bfa41cf71f634c97e5a4349adad6d8ea534b438dc0438dd52ec0f"), looks := true }, kinds := [], alts := [], laidByText := true, laidKinds := [.handle], laidTests := true, laidLooks := .later }
def ProofsCardSaid : Prop := Claim7.holds Tryd.pinned (.plain (OpenSpec.ofChange proofsSpec)) proofsCard

/-- THE TIED CARD OF 'daybooklaw.Logs'. -/
def logsCard : Claim7 := { stood := { row := logsRow, standIns := [], harness := (true, "eb9d18b5506bfa41cf71f634c97e5a4349adad6d8ea534b438dc0438dd52ec0f"), looks := true }, kinds := [], alts := [], laidByText := true, laidKinds := [.handle], laidTests := true, laidLooks := .later }
def LogsCardSaid : Prop := Claim7.holds Tryd.pinned (.plain (OpenSpec.ofChange logsSpec)) logsCard

/-- THE TIED CARD OF 'daybookkeep.Logged'. -/
def loggedCard : Claim7 := { stood := { row := loggedRow, standIns := [], harness := (true, "eb9d18b5506bfa41cf71f634c97e5a4349adad6d8ea534b438dc0438dd52ec0f"), looks := true }, kinds := [], alts := [], laidByText := true, laidKinds := [.handle], laidTests := true, laidLooks := .later }
def LoggedCardSaid : Prop := Claim7.holds Tryd.pinned (.plain (OpenSpec.ofChange loggedSpec)) loggedCard

/-- THE SECOND FORM's CARD OF 'daybooklaw.Names'. -/
def namesUptoCard : Claim7 := { stood := { row := namesUptoRow, standIns := [], harness := (true, "eb9d18b5506bfa41cf71f634c97e5a4349adad6d8ea534b438dc0438dd52ec0f"), looks := true }, kinds := [], alts := [], laidByText := true, laidKinds := [.handle], laidTests := true, laidLooks := .later }
def NamesUptoCardSaid : Prop := Claim7.holds Tryd.pinned (.plain (OpenSpec.upto namesSpec)) namesUptoCard

/-- THE SECOND FORM's CARD OF 'daybooklaw.Roots'. -/
def rootsUptoCard : Claim7 := { stood := { row := rootsUptoRow, standIns := [], harness := (true, "eb9d18b5506bfa41cf71f634c97e5a4349adad6d8ea534b438dc0438dd52ec0f"), looks := true }, kinds := [], alts := [], laidByText := true, laidKinds := [.handle], laidTests := true, laidLooks := .later }
def RootsUptoCardSaid : Prop := Claim7.holds Tryd.pinned (.plain (OpenSpec.upto rootsSpec)) rootsUptoCard

/-- THE SECOND FORM's CARD OF 'daybookkeep.Climbed'. -/
def climbedUptoCard : Claim7 := { stood := { row := climbedUptoRow, standIns := [], harness := (true, "eb9d18b5506bfa41cf71f634c97e5a4349adad6d8ea534b438dc0438dd52ec0f"), looks := true }, kinds := [], alts := [], laidByText := true, laidKinds := [.handle], laidTests := true, laidLooks := .later }
def ClimbedUptoCardSaid : Prop := Claim7.holds Tryd.pinned (.plain (OpenSpec.upto climbedSpec)) climbedUptoCard

/-- THE SECOND FORM's CARD OF 'daybooklaw.Proofs'. -/
def proofsUptoCard : Claim7 := { stood := { row := proofsUptoRow, standIns := [], harness := (true, "eb9d18b5506bfa41cf71f634c97e5a4349adad6d8ea534b438dc0438dd52ec0f"), looks := true }, kinds := [], alts := [], laidByText := true, laidKinds := [.handle], laidTests := true, laidLooks := .later }
def ProofsUptoCardSaid : Prop := Claim7.holds Tryd.pinned (.plain (OpenSpec.upto proofsSpec)) proofsUptoCard

/-- THE SECOND FORM's CARD OF 'daybooklaw.Logs'. -/
def logsUptoCard : Claim7 := { stood := { row := logsUptoRow, standIns := [], harness := (true, "eb9d18b5506bfa41cf71f634c97e5a4349adad6d8ea534b438dc0438dd52ec0f"), looks := true }, kinds := [], alts := [], laidByText := true, laidKinds := [.handle], laidTests := true, laidLooks := .later }
def LogsUptoCardSaid : Prop := Claim7.holds Tryd.pinned (.plain (OpenSpec.upto logsSpec)) logsUptoCard

/-- THE SECOND FORM's CARD OF 'daybookkeep.Logged'. -/
def loggedUptoCard : Claim7 := { stood := { row := loggedUptoRow, standIns := [], harness := (true, "eb9d18b5506bfa41cf71f634c97e5a4349adad6d8ea534b438dc0438dd52ec0f"), looks := true }, kinds := [], alts := [], laidByText := true, laidKinds := [.handle], laidTests := true, laidLooks := .later }
def LoggedUptoCardSaid : Prop := Claim7.holds Tryd.pinned (.plain (OpenSpec.upto loggedSpec)) loggedUptoCard
end Rows
end Go.Proofs.YtdiainkokgpldaaDoor
