/- Part 29: ForgedA. -/
import Derived.Test.YtbhpofdafhahgaaGreatDoorCards
import Derived.Test.YtbhpofdafhahgaaGreatDoorMq15
set_option linter.all false
set_option maxHeartbeats 8000000
set_option maxRecDepth 100000
namespace Go.Proofs.YtbhpofdafhahgaaGreatDoor
open Go.ChangeShapes Go.WideShapes Go.ChangeAt Go.RowKit
set_option maxRecDepth 100000
theorem V7:(Rows.forgedRow.inPlace==Tryz.pinned.checked.prog.inPlace 5)=true:=zp
theorem Wy:(Rows.forgedRow.unfollowed==Tryz.pinned.checked.prog.unfollowed 5)=true:=zp
theorem UK:(Rows.forgedRow.recurses==Tryz.pinned.checked.prog.recurses 5)=true:=zp
theorem VV:(Rows.forgedRow.named==Tryz.pinned.checked.prog.varsNamed 5)=true:=zp
theorem KG:joinedFacts Tryz.pinned.checked.prog 5 Tryz.f5 (OpenSpec.ofChange Rows.forgedSpec).bare Rows.forgedRow=true:=by unfold joinedFacts;rw[V7,Wy,UK,VV];kernel_rfl
end Go.Proofs.YtbhpofdafhahgaaGreatDoor
