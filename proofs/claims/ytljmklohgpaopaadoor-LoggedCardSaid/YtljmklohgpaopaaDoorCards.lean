/-
  DERIVED. GIVEN WITH THE SEED: THE CARDS: each row of YtljmklohgpaopaaDoorRows.lean that lists a variable, with what it lists TIED to the program's text (the seventh form; the later family's looks); each row that meets fmt, with fmt's text TOLD by the authors' own Lean function (tested against real Go, not proved from fmt's source: count such statements apart). THE CARD IS WHAT COUNTS. Prove the row's statement (the work); the ties are given (YtljmklohgpaopaaDoorTie.lean); close each card by the builder's one call (the guide's Derived/Test/ToyasCard.lean, 'card_holds'). Laid BY PROGRAM, IN A SANDBOX (cutbox-door.mjs). By AI agents, Wed Nov 11 2026. No macro, syntax, notation, axiom, sorry.
-/
import Derived.Test.YtljmklohgpaopaaDoorRows
import GoSem.ClaimSeven
namespace Go.Proofs.YtljmklohgpaopaaDoor
namespace Rows

/-- THE TIED CARD OF 'daybooklaw.Proofs'. -/
def proofsCard : Claim7 := { stood := { row := proofsRow, standIns := [], harness := (true, "3a80ab66375a04fbe49f7fceb2beefea1c6ff99ab3cc62f841eec0086b0b4e10"), looks := true }, kinds := [], alts := [], laidByText := true, laidKinds := [.handle], laidTests := true, laidLooks := .later }
def ProofsCardSaid : Prop := Claim7.holds Tryd.pinned (.plain (OpenSpec.ofChange proofsSpec)) proofsCard

/-- THE TIED CARD OF 'daybooklaw.Logs'. -/
def logsCard : Claim7 := { stood := { row := logsRow, standIns := [], harness := (true, "3a80ab66375a04fbe49f7fceb2beefea1c6ff99ab3cc62f841eec0086b0b4e10"), looks := true }, kinds := [], alts := [], laidByText := true, laidKinds := [.handle], laidTests := true, laidLooks := .later }
def LogsCardSaid : Prop := Claim7.holds Tryd.pinned (.plain (OpenSpec.ofChange logsSpec)) logsCard

/-- THE TIED CARD OF 'daybookkeep.Logged'. -/
def loggedCard : Claim7 := { stood := { row := loggedRow, standIns := [], harness := (true, "3a80ab66375a04fbe49f7fceb2beefea1c6ff99ab3cc62f841eec0086b0b4e10"), looks := true }, kinds := [], alts := [], laidByText := true, laidKinds := [.handle], laidTests := true, laidLooks := .later }
def LoggedCardSaid : Prop := Claim7.holds Tryd.pinned (.plain (OpenSpec.ofChange loggedSpec)) loggedCard

/-- THE SECOND FORM's CARD OF 'daybooklaw.Proofs'. -/
def proofsUptoCard : Claim7 := { stood := { row := proofsUptoRow, standIns := [], harness := (true, "3a80ab66375a04fbe49f7fceb2beefea1c6ff99ab3cc62f841eec0086b0b4e10"), looks := true }, kinds := [], alts := [], laidByText := true, laidKinds := [.handle], laidTests := true, laidLooks := .later }
def ProofsUptoCardSaid : Prop := Claim7.holds Tryd.pinned (.plain (OpenSpec.upto proofsSpec)) proofsUptoCard

/-- THE SECOND FORM's CARD OF 'daybooklaw.Logs'. -/
def logsUptoCard : Claim7 := { stood := { row := logsUptoRow, standIns := [], harness := (true, "3a80ab66375a04fbe49f7fceb2beefea1c6ff99ab3cc62f841eec0086b0b4e10"), looks := true }, kinds := [], alts := [], laidByText := true, laidKinds := [.handle], laidTests := true, laidLooks := .later }
def LogsUptoCardSaid : Prop := Claim7.holds Tryd.pinned (.plain (OpenSpec.upto logsSpec)) logsUptoCard

/-- THE SECOND FORM's CARD OF 'daybookkeep.Logged'. -/
def loggedUptoCard : Claim7 := { stood := { row := loggedUptoRow, standIns := [], harness := (true, "3a80ab66375a04fbe49f7fceb2beefea1c6ff99ab3cc62f841eec0086b0b4e10"), looks := true }, kinds := [], alts := [], laidByText := true, laidKinds := [.handle], laidTests := true, laidLooks := .later }
def LoggedUptoCardSaid : Prop := Claim7.holds Tryd.pinned (.plain (OpenSpec.upto loggedSpec)) loggedUptoCard
end Rows
end Go.Proofs.YtljmklohgpaopaaDoor
