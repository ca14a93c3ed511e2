/-
  NARROWER THAN 'FOR EVERY INPUT', by the rows' own cells (each row's printed sentence says how): Clashes: laid · Lean: laid · Trees: laid · Planted: laid.
  DERIVED. THE GIVEN ROWS OF THIS SEAT. 4 by the template 'for every input the law returns true; each argument reads behind the call as it read before'; 0 by the template 'total and deterministic' (their statements: YtljmklohgpaopaaGreatDoorTotals.lean).
  GIVEN WITH THE SEED: the statements are not yours to turn. If you find one false, say at which input.
  Laid BY PROGRAM, IN A SANDBOX (cutbox-rows.mjs): the forced cells as the released guide's own fill.sh prints them over the translation 90c4f8eff7fd70ff… (all of the seat's roots in one cut). By AI agents, Wed Nov 11 2026. No macro, syntax, notation, axiom, sorry.
-/
import Derived.Test.YtljmklohgpaopaaGreatDoorChecked
import GoSem.Claim
import GoSem.ClaimJoined
import GoSem.ClaimMapViews
import Derived.JoinedTies
import Derived.KernelRfl
namespace Go.Proofs.YtljmklohgpaopaaGreatDoor
/- THE CELL 'sum', in the pinned program and in every row, IS THE sha256 OF THE DUMP (.gsa) THAT YtljmklohgpaopaaGreatDoorProg.lean LOADS. Nothing in Lean hashes anything: it is a label: what it is worth is what the hold of that sum in a sandbox is worth. -/
noncomputable def Tryz.pinned : Pinned := { name := "ytljmklohgpaopaagreatdoor", sum := "90c4f8eff7fd70ffd4192f8577dc06e02f2e49bc8f73962463272baf790da3e8", checked := Tryz.checked }
namespace Rows
def none {H : Type} : Left H := { results := [], args := [] }

/- WHAT THE LISTED PACKAGE-LEVEL VARIABLES READ AS WHEN THE CALL BEGINS. Each datum BY PROGRAM (the guide's laid-datum.mjs) off the statement by which the dump's own 'gosem.cut.vars' lays the variable. In a bare row this is a premise. The card (YtljmklohgpaopaaGreatDoorCards.lean) ties it to the program's text. -/
def laid_errors_errorType {H : Type} : DataW H := .iface "internal/reflectlite.rtype" (.agg [.ptr (.lit (.string [101, 114, 114, 111, 114]))])
def laid_daybook_tree_everything {H : Type} : DataW H := .agg [.lit (.string []), .lit (.string []), .lit (.bool true)]

/-- 'daybooklaw.Clashes': WHATEVER THE INPUT: true; the input reads as it did. -/
def clashesSpec : ChangeSpec := { name := "clashes", fn := fun _ => fun
  | [d1, d2] => { results := [.lit (.bool true)], args := [d1, d2] }
  | _ => none }
def clashesRow : OpenClaim := { program := "ytljmklohgpaopaagreatdoor", sum := "90c4f8eff7fd70ffd4192f8577dc06e02f2e49bc8f73962463272baf790da3e8", func := "daybook/daybooklaw.Clashes", spec := "clashes", inPlace := ["internal/reflectlite.ValueOf", "(internal/reflectlite.Value).Type", "(internal/reflectlite.Value).IsNil", "internal/reflectlite.TypeOf", "(internal/reflectlite.Value).Elem", "(internal/reflectlite.Value).Set"], unfollowed := true, recurses := true, named := ["errors.errorType"], apart := false, laid := [("errors.errorType", laid_errors_errorType)] }
def ClashesSaid : Prop := clashesRow.holds Tryz.pinned (OpenSpec.ofChange clashesSpec)

/-- ITS FALSE NEIGHBOUR: 'it returns false'. Refute it at one input. -/
def clashesWrong : ChangeSpec := { name := "clashes", fn := fun _ => fun
  | [d1, d2] => { results := [.lit (.bool false)], args := [d1, d2] }
  | _ => none }
def ClashesWrongFalsely : Prop := clashesRow.holds Tryz.pinned (OpenSpec.ofChange clashesWrong)

/-- 'daybookkeep.Lean': WHATEVER THE INPUT: true; the input reads as it did. -/
def leanSpec : ChangeSpec := { name := "lean", fn := fun _ => fun
  | [d1, d2, d3, d4] => { results := [.lit (.bool true)], args := [d1, d2, d3, d4] }
  | _ => none }
def leanRow : OpenClaim := { program := "ytljmklohgpaopaagreatdoor", sum := "90c4f8eff7fd70ffd4192f8577dc06e02f2e49bc8f73962463272baf790da3e8", func := "daybook/daybookkeep.Lean", spec := "lean", inPlace := ["internal/reflectlite.ValueOf", "(internal/reflectlite.Value).Type", "(internal/reflectlite.Value).IsNil", "internal/reflectlite.TypeOf", "(internal/reflectlite.Value).Elem", "(internal/reflectlite.Value).Set"], unfollowed := true, recurses := true, named := ["daybook/tree.everything", "errors.errorType"], apart := false, laid := [("errors.errorType", laid_errors_errorType), ("daybook/tree.everything", laid_daybook_tree_everything)] }
def LeanSaid : Prop := leanRow.holds Tryz.pinned (OpenSpec.ofChange leanSpec)

/-- ITS FALSE NEIGHBOUR: 'it returns false'. Refute it at one input. -/
def leanWrong : ChangeSpec := { name := "lean", fn := fun _ => fun
  | [d1, d2, d3, d4] => { results := [.lit (.bool false)], args := [d1, d2, d3, d4] }
  | _ => none }
def LeanWrongFalsely : Prop := leanRow.holds Tryz.pinned (OpenSpec.ofChange leanWrong)

/-- 'daybooklaw.Trees': WHATEVER THE INPUT: true; the input reads as it did. -/
def treesSpec : ChangeSpec := { name := "trees", fn := fun _ => fun
  | [d1, d2, d3, d4] => { results := [.lit (.bool true)], args := [d1, d2, d3, d4] }
  | _ => none }
def treesRow : OpenClaim := { program := "ytljmklohgpaopaagreatdoor", sum := "90c4f8eff7fd70ffd4192f8577dc06e02f2e49bc8f73962463272baf790da3e8", func := "daybook/daybooklaw.Trees", spec := "trees", inPlace := ["internal/reflectlite.ValueOf", "(internal/reflectlite.Value).Type", "(internal/reflectlite.Value).IsNil", "internal/reflectlite.TypeOf", "(internal/reflectlite.Value).Elem", "(internal/reflectlite.Value).Set"], unfollowed := true, recurses := true, named := ["errors.errorType", "daybook/tree.everything"], apart := false, laid := [("errors.errorType", laid_errors_errorType), ("daybook/tree.everything", laid_daybook_tree_everything)] }
def TreesSaid : Prop := treesRow.holds Tryz.pinned (OpenSpec.ofChange treesSpec)

/-- ITS FALSE NEIGHBOUR: 'it returns false'. Refute it at one input. -/
def treesWrong : ChangeSpec := { name := "trees", fn := fun _ => fun
  | [d1, d2, d3, d4] => { results := [.lit (.bool false)], args := [d1, d2, d3, d4] }
  | _ => none }
def TreesWrongFalsely : Prop := treesRow.holds Tryz.pinned (OpenSpec.ofChange treesWrong)

/-- 'daybookkeep.Planted': WHATEVER THE INPUT: true; the input reads as it did. -/
def plantedSpec : ChangeSpec := { name := "planted", fn := fun _ => fun
  | [d1, d2] => { results := [.lit (.bool true)], args := [d1, d2] }
  | _ => none }
def plantedRow : OpenClaim := { program := "ytljmklohgpaopaagreatdoor", sum := "90c4f8eff7fd70ffd4192f8577dc06e02f2e49bc8f73962463272baf790da3e8", func := "daybook/daybookkeep.Planted", spec := "planted", inPlace := ["internal/reflectlite.ValueOf", "(internal/reflectlite.Value).Type", "(internal/reflectlite.Value).IsNil", "internal/reflectlite.TypeOf", "(internal/reflectlite.Value).Elem", "(internal/reflectlite.Value).Set"], unfollowed := true, recurses := true, named := ["daybook/tree.everything", "errors.errorType"], apart := false, laid := [("errors.errorType", laid_errors_errorType), ("daybook/tree.everything", laid_daybook_tree_everything)] }
def PlantedSaid : Prop := plantedRow.holds Tryz.pinned (OpenSpec.ofChange plantedSpec)

/-- ITS FALSE NEIGHBOUR: 'it returns false'. Refute it at one input. -/
def plantedWrong : ChangeSpec := { name := "planted", fn := fun _ => fun
  | [d1, d2] => { results := [.lit (.bool false)], args := [d1, d2] }
  | _ => none }
def PlantedWrongFalsely : Prop := plantedRow.holds Tryz.pinned (OpenSpec.ofChange plantedWrong)

/- THE SECOND FORM. 'bulk': how many values and letters a reading holds, each counted each time it is reached (what is shared counts as often as it is met; a slice's spare places count too). A statement '..UptoSaid' is the law's where the arguments, and the package variables that the reading takes, are together of bulk at most 1048576: NARROWER than '..Said'. Prove '..Said' where nothing that the law and all that it calls make is longer than what came in: it says more and counts as full. Else prove '..UptoSaid'. A law counts once. -/
mutual
def uptoBulk {H : Type} : DataW H → Nat
  | .lit (.string bytes) => bytes.length + 1
  | .lit _ => 1
  | .nil => 1
  | .ptr d => uptoBulk d + 1
  | .slice elems spare => uptoBulkAll elems + uptoBulkAll spare + 1
  | .agg parts => uptoBulkAll parts + 1
  | .iface _ d => uptoBulk d + 1
  | .map entries => uptoBulkEntries entries + 1
  | .held _ => 1
def uptoBulkAll {H : Type} : List (DataW H) → Nat
  | [] => 0
  | d :: r => uptoBulk d + uptoBulkAll r
def uptoBulkEntries {H : Type} : List (Lit × DataW H) → Nat
  | [] => 0
  | x :: r => uptoBulkEntry x + uptoBulkEntries r
def uptoBulkEntry {H : Type} : Lit × DataW H → Nat
  | (.string bytes, d) => bytes.length + uptoBulk d + 1
  | (_, d) => uptoBulk d + 1
 end
def uptoSmall : (H : Type) → List (DataW H) → Bool := fun _ ds => decide (uptoBulkAll ds ≤ 1048576)
def OpenSpec.upto (s : _root_.Go.ChangeSpec) : _root_.Go.OpenSpec := { _root_.Go.OpenSpec.ofChange s with cond := some uptoSmall }

/-- 'daybooklaw.Clashes', WHERE WHAT IT READS IS OF BULK AT MOST 1048576: true; the input reads as it did. -/
def clashesUptoRow : OpenClaim := { program := "ytljmklohgpaopaagreatdoor", sum := "90c4f8eff7fd70ffd4192f8577dc06e02f2e49bc8f73962463272baf790da3e8", func := "daybook/daybooklaw.Clashes", spec := "clashes", inPlace := ["internal/reflectlite.ValueOf", "(internal/reflectlite.Value).Type", "(internal/reflectlite.Value).IsNil", "internal/reflectlite.TypeOf", "(internal/reflectlite.Value).Elem", "(internal/reflectlite.Value).Set"], unfollowed := true, recurses := true, named := ["errors.errorType"], apart := false, laid := [("errors.errorType", laid_errors_errorType)], narrowed := true }
def ClashesUptoSaid : Prop := clashesUptoRow.holds Tryz.pinned (OpenSpec.upto clashesSpec)

/-- 'daybookkeep.Lean', WHERE WHAT IT READS IS OF BULK AT MOST 1048576: true; the input reads as it did. -/
def leanUptoRow : OpenClaim := { program := "ytljmklohgpaopaagreatdoor", sum := "90c4f8eff7fd70ffd4192f8577dc06e02f2e49bc8f73962463272baf790da3e8", func := "daybook/daybookkeep.Lean", spec := "lean", inPlace := ["internal/reflectlite.ValueOf", "(internal/reflectlite.Value).Type", "(internal/reflectlite.Value).IsNil", "internal/reflectlite.TypeOf", "(internal/reflectlite.Value).Elem", "(internal/reflectlite.Value).Set"], unfollowed := true, recurses := true, named := ["daybook/tree.everything", "errors.errorType"], apart := false, laid := [("errors.errorType", laid_errors_errorType), ("daybook/tree.everything", laid_daybook_tree_everything)], narrowed := true }
def LeanUptoSaid : Prop := leanUptoRow.holds Tryz.pinned (OpenSpec.upto leanSpec)

/-- 'daybooklaw.Trees', WHERE WHAT IT READS IS OF BULK AT MOST 1048576: true; the input reads as it did. -/
def treesUptoRow : OpenClaim := { program := "ytljmklohgpaopaagreatdoor", sum := "90c4f8eff7fd70ffd4192f8577dc06e02f2e49bc8f73962463272baf790da3e8", func := "daybook/daybooklaw.Trees", spec := "trees", inPlace := ["internal/reflectlite.ValueOf", "(internal/reflectlite.Value).Type", "(internal/reflectlite.Value).IsNil", "internal/reflectlite.TypeOf", "(internal/reflectlite.Value).Elem", "(internal/reflectlite.Value).Set"], unfollowed := true, recurses := true, named := ["errors.errorType", "daybook/tree.everything"], apart := false, laid := [("errors.errorType", laid_errors_errorType), ("daybook/tree.everything", laid_daybook_tree_everything)], narrowed := true }
def TreesUptoSaid : Prop := treesUptoRow.holds Tryz.pinned (OpenSpec.upto treesSpec)

/-- 'daybookkeep.Planted', WHERE WHAT IT READS IS OF BULK AT MOST 1048576: true; the input reads as it did. -/
def plantedUptoRow : OpenClaim := { program := "ytljmklohgpaopaagreatdoor", sum := "90c4f8eff7fd70ffd4192f8577dc06e02f2e49bc8f73962463272baf790da3e8", func := "daybook/daybookkeep.Planted", spec := "planted", inPlace := ["internal/reflectlite.ValueOf", "(internal/reflectlite.Value).Type", "(internal/reflectlite.Value).IsNil", "internal/reflectlite.TypeOf", "(internal/reflectlite.Value).Elem", "(internal/reflectlite.Value).Set"], unfollowed := true, recurses := true, named := ["daybook/tree.everything", "errors.errorType"], apart := false, laid := [("errors.errorType", laid_errors_errorType), ("daybook/tree.everything", laid_daybook_tree_everything)], narrowed := true }
def PlantedUptoSaid : Prop := plantedUptoRow.holds Tryz.pinned (OpenSpec.upto plantedSpec)

end Rows
end Go.Proofs.YtljmklohgpaopaaGreatDoor
