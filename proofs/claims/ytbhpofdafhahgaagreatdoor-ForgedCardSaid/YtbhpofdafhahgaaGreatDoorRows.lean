/-
  NARROWER THAN 'FOR EVERY INPUT', by the rows' own cells (each row's printed sentence says how): Shown: laid · Undone: laid · Forged: laid · Grown: laid.
  DERIVED. THE GIVEN ROWS OF THIS SEAT. 4 by the template 'for every input the law returns true; each argument reads behind the call as it read before'; 0 by the template 'total and deterministic' (their statements: YtbhpofdafhahgaaGreatDoorTotals.lean).
  GIVEN WITH THE SEED: the statements are not yours to turn. If you find one false, say at which input.
  Laid BY PROGRAM, IN A SANDBOX (cutbox-rows.mjs): the forced cells as the released guide's own fill.sh prints them over the translation f2c5becf288fcd59… (all of the seat's roots in one cut). By AI agents, Wed Nov 11 2026. No macro, syntax, notation, axiom, sorry.
-/
import Derived.Test.YtbhpofdafhahgaaGreatDoorChecked
import GoSem.Claim
import GoSem.ClaimJoined
import GoSem.ClaimMapViews
import Derived.JoinedTies
import Derived.KernelRfl
namespace Go.Proofs.YtbhpofdafhahgaaGreatDoor
/- THE CELL 'sum', in the pinned program and in every row, IS THE sha256 OF THE DUMP (.gsa) THAT YtbhpofdafhahgaaGreatDoorProg.lean LOADS. Nothing in Lean hashes anything: it is a label: what it is worth is what the hold of that sum in a sandbox is worth. -/
noncomputable def Tryz.pinned : Pinned := { name := "ytbhpofdafhahgaagreatdoor", sum := "f2c5becf288fcd59c61d4e4104227ce04c43b2309161055b4a0a417de8cb6254", checked := Tryz.checked }
namespace Rows
def none {H : Type} : Left H := { results := [], args := [] }

/- WHAT THE LISTED PACKAGE-LEVEL VARIABLES READ AS WHEN THE CALL BEGINS. Each datum BY PROGRAM (the guide's laid-datum.mjs) off the statement by which the dump's own 'gosem.cut.vars' lays the variable. In a bare row this is a premise. The card (YtbhpofdafhahgaaGreatDoorCards.lean) ties it to the program's text. -/
def laid_errors_errorType {H : Type} : DataW H := .iface "internal/reflectlite.rtype" (.agg [.ptr (.lit (.string [101, 114, 114, 111, 114]))])
def laid_daybook_tree_everything {H : Type} : DataW H := .agg [.lit (.string []), .lit (.string []), .lit (.bool true)]

/-- 'daybookkeep.Shown': WHATEVER THE INPUT: true; the input reads as it did. -/
def shownSpec : ChangeSpec := { name := "shown", fn := fun _ => fun
  | [d1, d2, d3, d4] => { results := [.lit (.bool true)], args := [d1, d2, d3, d4] }
  | _ => none }
def shownRow : OpenClaim := { program := "ytbhpofdafhahgaagreatdoor", sum := "f2c5becf288fcd59c61d4e4104227ce04c43b2309161055b4a0a417de8cb6254", func := "daybook/daybookkeep.Shown", spec := "shown", inPlace := ["internal/reflectlite.ValueOf", "(internal/reflectlite.Value).Type", "(internal/reflectlite.Value).IsNil", "internal/reflectlite.TypeOf", "(internal/reflectlite.Value).Elem", "(internal/reflectlite.Value).Set", "(*internal/sync.Mutex).Lock", "internal/race.Disable", "sync/atomic.CompareAndSwapInt32", "internal/race.Enable", "internal/race.Acquire", "(*internal/sync.Mutex).lockSlow", "internal/sync.runtime_canSpin", "internal/sync.runtime_doSpin", "internal/sync.throw", "internal/sync.runtime_nanotime", "internal/sync.runtime_SemacquireMutex", "sync/atomic.AddInt32", "(*internal/sync.Mutex).Unlock", "internal/race.ReleaseMerge", "(*internal/sync.Mutex).unlockSlow", "internal/sync.fatal", "internal/sync.runtime_Semrelease", "internal/abi.NoEscape"], unfollowed := true, recurses := true, named := ["daybook/tree.everything", "errors.errorType"], apart := false, laid := [("errors.errorType", laid_errors_errorType), ("daybook/tree.everything", laid_daybook_tree_everything)] }
def ShownSaid : Prop := shownRow.holds Tryz.pinned (OpenSpec.ofChange shownSpec)

/-- ITS FALSE NEIGHBOUR: 'it returns false'. Refute it at one input. -/
def shownWrong : ChangeSpec := { name := "shown", fn := fun _ => fun
  | [d1, d2, d3, d4] => { results := [.lit (.bool false)], args := [d1, d2, d3, d4] }
  | _ => none }
def ShownWrongFalsely : Prop := shownRow.holds Tryz.pinned (OpenSpec.ofChange shownWrong)

/-- 'daybookkeep.Undone': WHATEVER THE INPUT: true; the input reads as it did. -/
def undoneSpec : ChangeSpec := { name := "undone", fn := fun _ => fun
  | [d1, d2] => { results := [.lit (.bool true)], args := [d1, d2] }
  | _ => none }
def undoneRow : OpenClaim := { program := "ytbhpofdafhahgaagreatdoor", sum := "f2c5becf288fcd59c61d4e4104227ce04c43b2309161055b4a0a417de8cb6254", func := "daybook/daybookkeep.Undone", spec := "undone", inPlace := ["internal/reflectlite.ValueOf", "(internal/reflectlite.Value).Type", "(internal/reflectlite.Value).IsNil", "internal/reflectlite.TypeOf", "(internal/reflectlite.Value).Elem", "(internal/reflectlite.Value).Set", "(*internal/sync.Mutex).Lock", "internal/race.Disable", "sync/atomic.CompareAndSwapInt32", "internal/race.Enable", "internal/race.Acquire", "(*internal/sync.Mutex).lockSlow", "internal/sync.runtime_canSpin", "internal/sync.runtime_doSpin", "internal/sync.throw", "internal/sync.runtime_nanotime", "internal/sync.runtime_SemacquireMutex", "sync/atomic.AddInt32", "(*internal/sync.Mutex).Unlock", "internal/race.ReleaseMerge", "(*internal/sync.Mutex).unlockSlow", "internal/sync.fatal", "internal/sync.runtime_Semrelease", "internal/abi.NoEscape"], unfollowed := true, recurses := true, named := ["daybook/tree.everything", "errors.errorType"], apart := false, laid := [("errors.errorType", laid_errors_errorType), ("daybook/tree.everything", laid_daybook_tree_everything)] }
def UndoneSaid : Prop := undoneRow.holds Tryz.pinned (OpenSpec.ofChange undoneSpec)

/-- ITS FALSE NEIGHBOUR: 'it returns false'. Refute it at one input. -/
def undoneWrong : ChangeSpec := { name := "undone", fn := fun _ => fun
  | [d1, d2] => { results := [.lit (.bool false)], args := [d1, d2] }
  | _ => none }
def UndoneWrongFalsely : Prop := undoneRow.holds Tryz.pinned (OpenSpec.ofChange undoneWrong)

/-- 'daybookkeep.Forged': WHATEVER THE INPUT: true; the input reads as it did. -/
def forgedSpec : ChangeSpec := { name := "forged", fn := fun _ => fun
  | [d1, d2, d3] => { results := [.lit (.bool true)], args := [d1, d2, d3] }
  | _ => none }
def forgedRow : OpenClaim := { program := "ytbhpofdafhahgaagreatdoor", sum := "f2c5becf288fcd59c61d4e4104227ce04c43b2309161055b4a0a417de8cb6254", func := "daybook/daybookkeep.Forged", spec := "forged", inPlace := ["internal/reflectlite.ValueOf", "(internal/reflectlite.Value).Type", "(internal/reflectlite.Value).IsNil", "internal/reflectlite.TypeOf", "(internal/reflectlite.Value).Elem", "(internal/reflectlite.Value).Set", "(*internal/sync.Mutex).Lock", "internal/race.Disable", "sync/atomic.CompareAndSwapInt32", "internal/race.Enable", "internal/race.Acquire", "(*internal/sync.Mutex).lockSlow", "internal/sync.runtime_canSpin", "internal/sync.runtime_doSpin", "internal/sync.throw", "internal/sync.runtime_nanotime", "internal/sync.runtime_SemacquireMutex", "sync/atomic.AddInt32", "(*internal/sync.Mutex).Unlock", "internal/race.ReleaseMerge", "(*internal/sync.Mutex).unlockSlow", "internal/sync.fatal", "internal/sync.runtime_Semrelease", "internal/abi.NoEscape"], unfollowed := true, recurses := true, named := ["daybook/tree.everything", "errors.errorType"], apart := false, laid := [("errors.errorType", laid_errors_errorType), ("daybook/tree.everything", laid_daybook_tree_everything)] }
def ForgedSaid : Prop := forgedRow.holds Tryz.pinned (OpenSpec.ofChange forgedSpec)

/-- ITS FALSE NEIGHBOUR: 'it returns false'. Refute it at one input. -/
def forgedWrong : ChangeSpec := { name := "forged", fn := fun _ => fun
  | [d1, d2, d3] => { results := [.lit (.bool false)], args := [d1, d2, d3] }
  | _ => none }
def ForgedWrongFalsely : Prop := forgedRow.holds Tryz.pinned (OpenSpec.ofChange forgedWrong)

/-- 'daybookkeep.Grown': WHATEVER THE INPUT: true; the input reads as it did. -/
def grownSpec : ChangeSpec := { name := "grown", fn := fun _ => fun
  | [d1, d2] => { results := [.lit (.bool true)], args := [d1, d2] }
  | _ => none }
def grownRow : OpenClaim := { program := "ytbhpofdafhahgaagreatdoor", sum := "f2c5becf288fcd59c61d4e4104227ce04c43b2309161055b4a0a417de8cb6254", func := "daybook/daybookkeep.Grown", spec := "grown", inPlace := ["internal/reflectlite.ValueOf", "(internal/reflectlite.Value).Type", "(internal/reflectlite.Value).IsNil", "internal/reflectlite.TypeOf", "(internal/reflectlite.Value).Elem", "(internal/reflectlite.Value).Set", "(*internal/sync.Mutex).Lock", "internal/race.Disable", "sync/atomic.CompareAndSwapInt32", "internal/race.Enable", "internal/race.Acquire", "(*internal/sync.Mutex).lockSlow", "internal/sync.runtime_canSpin", "internal/sync.runtime_doSpin", "internal/sync.throw", "internal/sync.runtime_nanotime", "internal/sync.runtime_SemacquireMutex", "sync/atomic.AddInt32", "(*internal/sync.Mutex).Unlock", "internal/race.ReleaseMerge", "(*internal/sync.Mutex).unlockSlow", "internal/sync.fatal", "internal/sync.runtime_Semrelease", "internal/abi.NoEscape"], unfollowed := true, recurses := true, named := ["daybook/tree.everything", "errors.errorType"], apart := false, laid := [("errors.errorType", laid_errors_errorType), ("daybook/tree.everything", laid_daybook_tree_everything)] }
def GrownSaid : Prop := grownRow.holds Tryz.pinned (OpenSpec.ofChange grownSpec)

/-- ITS FALSE NEIGHBOUR: 'it returns false'. Refute it at one input. -/
def grownWrong : ChangeSpec := { name := "grown", fn := fun _ => fun
  | [d1, d2] => { results := [.lit (.bool false)], args := [d1, d2] }
  | _ => none }
def GrownWrongFalsely : Prop := grownRow.holds Tryz.pinned (OpenSpec.ofChange grownWrong)

/- THE SECOND FORM. 'bulk': how many values and letters a reading holds, each counted each time it is reached (what is shared counts as often as it is met; a slice's spare places count too). A statement '..UptoSaid' is the law's where the arguments, and the package variables that the reading takes, are together of bulk at most 1048576: NARROWER than '..Said'. Prove '..Said' where nothing that the law and all that it calls make is longer than what came in: it says more and counts as full. Else prove '..UptoSaid'. A law counts once. -/
mutual
def uptoBulk {H : Type} : DataW H → Nat
  | .lit (.string bytes) => bytes.length + 1
  | .lit _ => 1
  | .nil => 1
  | .ptr d => uptoBulk d + 1
  | .slice elems spare => uptoBulkAll elems + uptoBulkAll spare + 1
  | .agg parts => uptoBulkAll parts + 1
  | .iface _ d => uptoBulk d + 1
  | .map entries => uptoBulkEntries entries + 1
  | .held _ => 1
def uptoBulkAll {H : Type} : List (DataW H) → Nat
  | [] => 0
  | d :: r => uptoBulk d + uptoBulkAll r
def uptoBulkEntries {H : Type} : List (Lit × DataW H) → Nat
  | [] => 0
  | x :: r => uptoBulkEntry x + uptoBulkEntries r
def uptoBulkEntry {H : Type} : Lit × DataW H → Nat
  | (.string bytes, d) => bytes.length + uptoBulk d + 1
  | (_, d) => uptoBulk d + 1
 end
def uptoSmall : (H : Type) → List (DataW H) → Bool := fun _ ds => decide (uptoBulkAll ds ≤ 1048576)
def OpenSpec.upto (s : _root_.Go.ChangeSpec) : _root_.Go.OpenSpec := { _root_.Go.OpenSpec.ofChange s with cond := some uptoSmall }

/-- 'daybookkeep.Shown', WHERE WHAT IT READS IS OF BULK AT MOST 1048576: true; the input reads as it did. -/
def shownUptoRow : OpenClaim := { program := "ytbhpofdafhahgaagreatdoor", sum := "f2c5becf288fcd59c61d4e4104227ce04c43b2309161055b4a0a417de8cb6254", func := "daybook/daybookkeep.Shown", spec := "shown", inPlace := ["internal/reflectlite.ValueOf", "(internal/reflectlite.Value).Type", "(internal/reflectlite.Value).IsNil", "internal/reflectlite.TypeOf", "(internal/reflectlite.Value).Elem", "(internal/reflectlite.Value).Set", "(*internal/sync.Mutex).Lock", "internal/race.Disable", "sync/atomic.CompareAndSwapInt32", "internal/race.Enable", "internal/race.Acquire", "(*internal/sync.Mutex).lockSlow", "internal/sync.runtime_canSpin", "internal/sync.runtime_doSpin", "internal/sync.throw", "internal/sync.runtime_nanotime", "internal/sync.runtime_SemacquireMutex", "sync/atomic.AddInt32", "(*internal/sync.Mutex).Unlock", "internal/race.ReleaseMerge", "(*internal/sync.Mutex).unlockSlow", "internal/sync.fatal", "internal/sync.runtime_Semrelease", "internal/abi.NoEscape"], unfollowed := true, recurses := true, named := ["daybook/tree.everything", "errors.errorType"], apart := false, laid := [("errors.errorType", laid_errors_errorType), ("daybook/tree.everything", laid_daybook_tree_everything)], narrowed := true }
def ShownUptoSaid : Prop := shownUptoRow.holds Tryz.pinned (OpenSpec.upto shownSpec)

/-- 'daybookkeep.Undone', WHERE WHAT IT READS IS OF BULK AT MOST 1048576: true; the input reads as it did. -/
def undoneUptoRow : OpenClaim := { program := "ytbhpofdafhahgaagreatdoor", sum := "f2c5becf288fcd59c61d4e4104227ce04c43b2309161055b4a0a417de8cb6254", func := "daybook/daybookkeep.Undone", spec := "undone", inPlace := ["internal/reflectlite.ValueOf", "(internal/reflectlite.Value).Type", "(internal/reflectlite.Value).IsNil", "internal/reflectlite.TypeOf", "(internal/reflectlite.Value).Elem", "(internal/reflectlite.Value).Set", "(*internal/sync.Mutex).Lock", "internal/race.Disable", "sync/atomic.CompareAndSwapInt32", "internal/race.Enable", "internal/race.Acquire", "(*internal/sync.Mutex).lockSlow", "internal/sync.runtime_canSpin", "internal/sync.runtime_doSpin", "internal/sync.throw", "internal/sync.runtime_nanotime", "internal/sync.runtime_SemacquireMutex", "sync/atomic.AddInt32", "(*internal/sync.Mutex).Unlock", "internal/race.ReleaseMerge", "(*internal/sync.Mutex).unlockSlow", "internal/sync.fatal", "internal/sync.runtime_Semrelease", "internal/abi.NoEscape"], unfollowed := true, recurses := true, named := ["daybook/tree.everything", "errors.errorType"], apart := false, laid := [("errors.errorType", laid_errors_errorType), ("daybook/tree.everything", laid_daybook_tree_everything)], narrowed := true }
def UndoneUptoSaid : Prop := undoneUptoRow.holds Tryz.pinned (OpenSpec.upto undoneSpec)

/-- 'daybookkeep.Forged', WHERE WHAT IT READS IS OF BULK AT MOST 1048576: true; the input reads as it did. -/
def forgedUptoRow : OpenClaim := { program := "ytbhpofdafhahgaagreatdoor", sum := "f2c5becf288fcd59c61d4e4104227ce04c43b2309161055b4a0a417de8cb6254", func := "daybook/daybookkeep.Forged", spec := "forged", inPlace := ["internal/reflectlite.ValueOf", "(internal/reflectlite.Value).Type", "(internal/reflectlite.Value).IsNil", "internal/reflectlite.TypeOf", "(internal/reflectlite.Value).Elem", "(internal/reflectlite.Value).Set", "(*internal/sync.Mutex).Lock", "internal/race.Disable", "sync/atomic.CompareAndSwapInt32", "internal/race.Enable", "internal/race.Acquire", "(*internal/sync.Mutex).lockSlow", "internal/sync.runtime_canSpin", "internal/sync.runtime_doSpin", "internal/sync.throw", "internal/sync.runtime_nanotime", "internal/sync.runtime_SemacquireMutex", "sync/atomic.AddInt32", "(*internal/sync.Mutex).Unlock", "internal/race.ReleaseMerge", "(*internal/sync.Mutex).unlockSlow", "internal/sync.fatal", "internal/sync.runtime_Semrelease", "internal/abi.NoEscape"], unfollowed := true, recurses := true, named := ["daybook/tree.everything", "errors.errorType"], apart := false, laid := [("errors.errorType", laid_errors_errorType), ("daybook/tree.everything", laid_daybook_tree_everything)], narrowed := true }
def ForgedUptoSaid : Prop := forgedUptoRow.holds Tryz.pinned (OpenSpec.upto forgedSpec)

/-- 'daybookkeep.Grown', WHERE WHAT IT READS IS OF BULK AT MOST 1048576: true; the input reads as it did. -/
def grownUptoRow : OpenClaim := { program := "ytbhpofdafhahgaagreatdoor", sum := "f2c5becf288fcd59c61d4e4104227ce04c43b2309161055b4a0a417de8cb6254", func := "daybook/daybookkeep.Grown", spec := "grown", inPlace := ["internal/reflectlite.ValueOf", "(internal/reflectlite.Value).Type", "(internal/reflectlite.Value).IsNil", "internal/reflectlite.TypeOf", "(internal/reflectlite.Value).Elem", "(internal/reflectlite.Value).Set", "(*internal/sync.Mutex).Lock", "internal/race.Disable", "sync/atomic.CompareAndSwapInt32", "internal/race.Enable", "internal/race.Acquire", "(*internal/sync.Mutex).lockSlow", "internal/sync.runtime_canSpin", "internal/sync.runtime_doSpin", "internal/sync.throw", "internal/sync.runtime_nanotime", "internal/sync.runtime_SemacquireMutex", "sync/atomic.AddInt32", "(*internal/sync.Mutex).Unlock", "internal/race.ReleaseMerge", "(*internal/sync.Mutex).unlockSlow", "internal/sync.fatal", "internal/sync.runtime_Semrelease", "internal/abi.NoEscape"], unfollowed := true, recurses := true, named := ["daybook/tree.everything", "errors.errorType"], apart := false, laid := [("errors.errorType", laid_errors_errorType), ("daybook/tree.everything", laid_daybook_tree_everything)], narrowed := true }
def GrownUptoSaid : Prop := grownUptoRow.holds Tryz.pinned (OpenSpec.upto grownSpec)

end Rows
end Go.Proofs.YtbhpofdafhahgaaGreatDoor
