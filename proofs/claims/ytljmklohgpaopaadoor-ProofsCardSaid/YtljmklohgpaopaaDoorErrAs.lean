/- errors.As by its contracts, at what the program hands it: nil, a Kind, a TableError; the targets TableError's and Kind's pointers. -/
import Derived.Test.YtljmklohgpaopaaDoorProg
import Derived.Test.YtljmklohgpaopaaDoorHeap
import Derived.LaidEql
import Derived.Stop.Asserts
import Derived.RowKitTokens
namespace Go.Proofs.YtljmklohgpaopaaDoor
open Go.RowKit Go.Extern.Stop Go.Stop Go.Extern

/-- What the one package-level variable of package errors reads as. -/
def GE (w : World) : Prop := w.cell? ⟨0, 0, none⟩ = some (.iface 185 (.agg #[.pointer (some ⟨1, 70, none⟩)]))

/-- errors.As(nil, target). -/
theorem as_nil (t : Value) (w : World) :
    Calls Tryd.prog 75 #[.nilIface, t] w fun e w' => e = .returned (.bool false) ∧ w = w' := by
  go_enter Tryd.func75, Tryd.ntmps75
  go_wp2
  go_ret
  exact ⟨rfl, rfl⟩

/-! ### closed facts on the model's entries for reflectlite -/
theorem Tryd.valueOfPP (t : Addr) (w : World) : (ReflectliteValue.unpack (.iface 140 (.pointer (some t)))).run Tryd.prog w
    = .ok (.agg #[.pointer (some ⟨1, 140, none⟩), .pointer (some ⟨w.heap.size, 0, none⟩), .int .u64 150]) (w.alloc (.cells #[.pointer (some t)] 140)) := by kernel_rfl
theorem Tryd.typePP (a : Addr) (w : World) : (ReflectliteValue.methodAny (ReflectliteValue.valueError "reflectlite.Value.Type" 0) (fun t _ _ _ => ReflectliteType.toType t) #[.agg #[.pointer (some ⟨1, 140, none⟩), .pointer (some a), .int .u64 150]]).run Tryd.prog w
    = .ok (.iface 185 (.agg #[.pointer (some ⟨1, 140, none⟩)])) w := by kernel_rfl
theorem Tryd.methodKind (h : Value) (w : World) : (Go.method 332 185 (.agg #[h]) "Kind").run Tryd.prog w = .ok (130, h) w := by kernel_rfl
theorem Tryd.kindPP (w : World) : ((ReflectliteType.abiMethod fun t => (fun a : Nat => Value.int IntKind.u8 (a : Int)) <$> Rtype.kind t) #[.pointer (some ⟨1, 140, none⟩)]).run Tryd.prog w = .ok (.int .u8 22) w := by kernel_rfl
theorem Tryd.kindP (w : World) : ((ReflectliteType.abiMethod fun t => (fun a : Nat => Value.int IntKind.u8 (a : Int)) <$> Rtype.kind t) #[.pointer (some ⟨1, 138, none⟩)]).run Tryd.prog w = .ok (.int .u8 22) w := by kernel_rfl
theorem rlm (z : Sem Value) (f : TypeId → Addr → Nat → Nat → Sem Value) (v : Value) :
    ReflectliteValue.method z f #[v] = (do match ← ReflectliteValue.parts v with | none => z | some (t, a, fl) => f t a fl (fl % 32)) := rfl
theorem Tryd.partsPP (a : Addr) (w : World) : (ReflectliteValue.parts (.agg #[.pointer (some ⟨1, 140, none⟩), .pointer (some a), .int .u64 150])).run Tryd.prog w = .ok (some (140, a, 150)) w := by kernel_rfl
theorem Tryd.isNilPP (a p : Addr) (W : World) (ha : W.cell? a = some (.pointer (some p))) :
    (ReflectliteValue.method (ReflectliteValue.valueError "reflectlite.Value.IsNil" 0) ReflectliteValue.isNil #[.agg #[.pointer (some ⟨1, 140, none⟩), .pointer (some a), .int .u64 150]]).run Tryd.prog W = .ok (.bool false) W := by
  rw [rlm]
  simp only [Sem.run_bind, Tryd.partsPP, Result.andThen]
  simp [ReflectliteValue.isNil, loadVar, isAgg, underlying, Tryd.underlying140, ha, Result.andThen]
theorem Tryd.methodElem (h : Value) (w : World) : (Go.method 332 185 (.agg #[h]) "Elem").run Tryd.prog w = .ok (146, .agg #[h]) w := by kernel_rfl
theorem Tryd.methodImplements (h : Value) (w : World) : (Go.method 332 185 (.agg #[h]) "Implements").run Tryd.prog w = .ok (147, .agg #[h]) w := by kernel_rfl
theorem Tryd.methodAssignableTo (h : Value) (w : World) : (Go.method 332 185 (.agg #[h]) "AssignableTo").run Tryd.prog w = .ok (144, .agg #[h]) w := by kernel_rfl
theorem Tryd.elemPP (w : World) : (ReflectliteType.method ReflectliteType.elem #[.agg #[.pointer (some ⟨1, 140, none⟩)]]).run Tryd.prog w = .ok (.iface 185 (.agg #[.pointer (some ⟨1, 138, none⟩)])) w := by kernel_rfl
theorem Tryd.implementsP (w : World) : (ReflectliteType.relation "Implements" ReflectliteType.implements_ #[.agg #[.pointer (some ⟨1, 138, none⟩)], .iface 185 (.agg #[.pointer (some ⟨1, 70, none⟩)])]).run Tryd.prog w = .ok (.bool true) w := by kernel_rfl
theorem Tryd.typeOfP (v : Value) (w : World) : (ReflectliteType.typeOf #[.iface 138 v]).run Tryd.prog w = .ok (.iface 185 (.agg #[.pointer (some ⟨1, 138, none⟩)])) w := by kernel_rfl
theorem Tryd.typeOfK (v : Value) (w : World) : (ReflectliteType.typeOf #[.iface 25 v]).run Tryd.prog w = .ok (.iface 185 (.agg #[.pointer (some ⟨1, 25, none⟩)])) w := by kernel_rfl
theorem Tryd.assignablePP (w : World) : (ReflectliteType.relation "AssignableTo" ReflectliteType.assignableTo #[.agg #[.pointer (some ⟨1, 138, none⟩)], .iface 185 (.agg #[.pointer (some ⟨1, 138, none⟩)])]).run Tryd.prog w = .ok (.bool true) w := by kernel_rfl
theorem Tryd.assignableKP (w : World) : (ReflectliteType.relation "AssignableTo" ReflectliteType.assignableTo #[.agg #[.pointer (some ⟨1, 25, none⟩)], .iface 185 (.agg #[.pointer (some ⟨1, 138, none⟩)])]).run Tryd.prog w = .ok (.bool false) w := by kernel_rfl
theorem Tryd.assignableKK (w : World) : (ReflectliteType.relation "AssignableTo" ReflectliteType.assignableTo #[.agg #[.pointer (some ⟨1, 25, none⟩)], .iface 185 (.agg #[.pointer (some ⟨1, 25, none⟩)])]).run Tryd.prog w = .ok (.bool true) w := by kernel_rfl

/-! the target *Kind -/
theorem Tryd.valueOfPK (t : Addr) (w : World) : (ReflectliteValue.unpack (.iface 143 (.pointer (some t)))).run Tryd.prog w
    = .ok (.agg #[.pointer (some ⟨1, 143, none⟩), .pointer (some ⟨w.heap.size, 0, none⟩), .int .u64 150]) (w.alloc (.cells #[.pointer (some t)] 143)) := by kernel_rfl
theorem Tryd.typePK (a : Addr) (w : World) : (ReflectliteValue.methodAny (ReflectliteValue.valueError "reflectlite.Value.Type" 0) (fun t _ _ _ => ReflectliteType.toType t) #[.agg #[.pointer (some ⟨1, 143, none⟩), .pointer (some a), .int .u64 150]]).run Tryd.prog w
    = .ok (.iface 185 (.agg #[.pointer (some ⟨1, 143, none⟩)])) w := by kernel_rfl
theorem Tryd.kindPK (w : World) : ((ReflectliteType.abiMethod fun t => (fun a : Nat => Value.int IntKind.u8 (a : Int)) <$> Rtype.kind t) #[.pointer (some ⟨1, 143, none⟩)]).run Tryd.prog w = .ok (.int .u8 22) w := by kernel_rfl
theorem Tryd.kindK (w : World) : ((ReflectliteType.abiMethod fun t => (fun a : Nat => Value.int IntKind.u8 (a : Int)) <$> Rtype.kind t) #[.pointer (some ⟨1, 25, none⟩)]).run Tryd.prog w = .ok (.int .u8 2) w := by kernel_rfl
theorem Tryd.partsPK (a : Addr) (w : World) : (ReflectliteValue.parts (.agg #[.pointer (some ⟨1, 143, none⟩), .pointer (some a), .int .u64 150])).run Tryd.prog w = .ok (some (143, a, 150)) w := by kernel_rfl
theorem Tryd.isNilPK (a p : Addr) (W : World) (ha : W.cell? a = some (.pointer (some p))) :
    (ReflectliteValue.method (ReflectliteValue.valueError "reflectlite.Value.IsNil" 0) ReflectliteValue.isNil #[.agg #[.pointer (some ⟨1, 143, none⟩), .pointer (some a), .int .u64 150]]).run Tryd.prog W = .ok (.bool false) W := by
  rw [rlm]
  simp only [Sem.run_bind, Tryd.partsPK, Result.andThen]
  simp [ReflectliteValue.isNil, loadVar, isAgg, underlying, Tryd.underlying143, ha, Result.andThen]
theorem Tryd.elemPK (w : World) : (ReflectliteType.method ReflectliteType.elem #[.agg #[.pointer (some ⟨1, 143, none⟩)]]).run Tryd.prog w = .ok (.iface 185 (.agg #[.pointer (some ⟨1, 25, none⟩)])) w := by kernel_rfl
theorem Tryd.implementsK (w : World) : (ReflectliteType.relation "Implements" ReflectliteType.implements_ #[.agg #[.pointer (some ⟨1, 25, none⟩)], .iface 185 (.agg #[.pointer (some ⟨1, 70, none⟩)])]).run Tryd.prog w = .ok (.bool true) w := by kernel_rfl
theorem Tryd.valueOfP (e : Addr) (w : World) : (ReflectliteValue.unpack (.iface 138 (.pointer (some e)))).run Tryd.prog w
    = .ok (.agg #[.pointer (some ⟨1, 138, none⟩), .pointer (some ⟨w.heap.size, 0, none⟩), .int .u64 150]) (w.alloc (.cells #[.pointer (some e)] 138)) := by kernel_rfl
theorem Tryd.valueOfK (k : Int) (w : World) : (ReflectliteValue.unpack (.iface 25 (.int .i64 k))).run Tryd.prog w
    = .ok (.agg #[.pointer (some ⟨1, 25, none⟩), .pointer (some ⟨w.heap.size, 0, none⟩), .int .u64 130]) (w.alloc (.cells #[.int .i64 k] 25)) := by kernel_rfl
end Go.Proofs.YtljmklohgpaopaaDoor
