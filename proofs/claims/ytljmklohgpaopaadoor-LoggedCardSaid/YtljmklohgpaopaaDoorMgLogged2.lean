/- errors.As walked: a TableError into a TableError's pointer; a Kind into a TableError's pointer (no); a Kind into a Kind. errors.As walked: a TableError into a TableError's pointer; a Kind into a TableError's pointer (no); a Kind into a Kind. errors.Is by its contracts, at what the program hands it: nil, a Kind, a TableError, held against a Kind. api.Told and plain's told by their contracts: nil, a Kind, a table's error. The law Names walked: it returns true. The walks of the harness's is and bare, of plain's hash and Root. The walks of plain's Path and Climb. The walks of the harness's lentAll and stayAll. Plain facts on headers and what leads from one to another: no program in sight. Plain facts on evidence: how it is taken apart, what it must be; no program in sight. -/
import Derived.Test.YtljmklohgpaopaaDoorMgLogged1
import Derived.RegionTactic
import Derived.Deep.QuietTactic
import Derived.BigQuiet
set_option linter.unusedVariables false
set_option linter.unusedSimpArgs false

namespace Go.Proofs.YtljmklohgpaopaaDoor
open Go.RowKit Go.Extern.Stop Go.Stop Go.Extern

theorem Tryd.elemOfPP (w : World) : (Rtype.elem? 140).run Tryd.prog w = .ok (some 138) w := by kernel_rfl
theorem Tryd.mkP (p : Addr) (w : World) : (ReflectliteValue.mk 138 p ReflectliteValue.flagAddr).run Tryd.prog w = .ok (.agg #[.pointer (some ⟨1, 138, none⟩), .pointer (some p), .int .u64 406]) w := by kernel_rfl
theorem Tryd.elemVPP (a p : Addr) (W : World) (ha : W.cell? a = some (.pointer (some p))) :
    (ReflectliteValue.method (ReflectliteValue.valueError "reflectlite.Value.Elem" 0) ReflectliteValue.elem #[.agg #[.pointer (some ⟨1, 140, none⟩), .pointer (some a), .int .u64 150]]).run Tryd.prog W
      = .ok (.agg #[.pointer (some ⟨1, 138, none⟩), .pointer (some p), .int .u64 406]) W := by
  rw [rlm]
  simp only [Sem.run_bind, Tryd.partsPP, Result.andThen]
  simp [ReflectliteValue.elem, loadVar, isAgg, underlying, Tryd.underlying140, ha, Result.andThen, Tryd.elemOfPP, Tryd.mkP]
theorem rls (v x : Value) : ReflectliteValue.set #[v, x] = (do
    let (some (dst, a, fl), some (src, b, _)) := (← ReflectliteValue.parts v, ← ReflectliteValue.parts x)
      | unsupported (.noEntry "extern/(internal/reflectlite.Value).Set.zeroValue")
    if fl / ReflectliteValue.flagAddr % 2 == 0 then unsupported (.noEntry "extern/(internal/reflectlite.Value).Set.unaddressable")
    let val ← loadVar src b
    if ← Rtype.directlyAssignable dst src then storeVar dst a val
    else if ← Rtype.implements dst src then
      if (← Rtype.kind src) == 20 then
        match val with
        | .nilIface => unsupported (.noEntry "extern/reflectlite: a nil value of one interface type handed on as a value of another")
        | _ => storeVar dst a val
      else storeVar dst a (.iface src val)
    else panicString ("reflectlite.Set: value of type " ++ (← Rtype.spelt src) ++ " is not assignable to type " ++ (← Rtype.spelt dst))
    pure (.tuple #[])) := rfl
theorem Tryd.partsPa (a : Addr) (w : World) : (ReflectliteValue.parts (.agg #[.pointer (some ⟨1, 138, none⟩), .pointer (some a), .int .u64 406])).run Tryd.prog w = .ok (some (138, a, 406)) w := by kernel_rfl
theorem Tryd.partsP (a : Addr) (w : World) : (ReflectliteValue.parts (.agg #[.pointer (some ⟨1, 138, none⟩), .pointer (some a), .int .u64 150])).run Tryd.prog w = .ok (some (138, a, 150)) w := by kernel_rfl
theorem Tryd.directP (w : World) : (Rtype.directlyAssignable 138 138).run Tryd.prog w = .ok true w := by kernel_rfl
theorem Tryd.setP (ta b e : Addr) (old : Value) (W : World) (hb : W.cell? b = some (.pointer (some e))) (ht : W.cell? ta = some old) (hf : W.frozen? ta = false) :
    (ReflectliteValue.set #[.agg #[.pointer (some ⟨1, 138, none⟩), .pointer (some ta), .int .u64 406], .agg #[.pointer (some ⟨1, 138, none⟩), .pointer (some b), .int .u64 150]]).run Tryd.prog W
      = .ok (.tuple #[]) (W.setCell ta (.pointer (some e))) := by
  rw [rls]
  simp only [Sem.run_bind, Tryd.partsPa, Tryd.partsP, Result.andThen]
  simp [ReflectliteValue.flagAddr, loadVar, isAgg, underlying, Tryd.underlying138, hb, Result.andThen, Tryd.directP, storeVar, Value.cells, storeCells, Addr.add]
  rw [run_store Tryd.prog W ta _ _ (by rfl)]
  simp [ht, hf]

theorem Tryd.elemOfPK (w : World) : (Rtype.elem? 143).run Tryd.prog w = .ok (some 25) w := by kernel_rfl
theorem Tryd.mkK (p : Addr) (w : World) : (ReflectliteValue.mk 25 p ReflectliteValue.flagAddr).run Tryd.prog w = .ok (.agg #[.pointer (some ⟨1, 25, none⟩), .pointer (some p), .int .u64 386]) w := by kernel_rfl
theorem Tryd.elemVPK (a p : Addr) (W : World) (ha : W.cell? a = some (.pointer (some p))) :
    (ReflectliteValue.method (ReflectliteValue.valueError "reflectlite.Value.Elem" 0) ReflectliteValue.elem #[.agg #[.pointer (some ⟨1, 143, none⟩), .pointer (some a), .int .u64 150]]).run Tryd.prog W
      = .ok (.agg #[.pointer (some ⟨1, 25, none⟩), .pointer (some p), .int .u64 386]) W := by
  rw [rlm]
  simp only [Sem.run_bind, Tryd.partsPK, Result.andThen]
  simp [ReflectliteValue.elem, loadVar, isAgg, underlying, Tryd.underlying143, ha, Result.andThen, Tryd.elemOfPK, Tryd.mkK]
theorem Tryd.partsKa (a : Addr) (w : World) : (ReflectliteValue.parts (.agg #[.pointer (some ⟨1, 25, none⟩), .pointer (some a), .int .u64 386])).run Tryd.prog w = .ok (some (25, a, 386)) w := by kernel_rfl
theorem Tryd.partsK (a : Addr) (w : World) : (ReflectliteValue.parts (.agg #[.pointer (some ⟨1, 25, none⟩), .pointer (some a), .int .u64 130])).run Tryd.prog w = .ok (some (25, a, 130)) w := by kernel_rfl
theorem Tryd.directK (w : World) : (Rtype.directlyAssignable 25 25).run Tryd.prog w = .ok true w := by kernel_rfl
theorem Tryd.setK (ta b : Addr) (k : Int) (old : Value) (W : World) (hb : W.cell? b = some (.int .i64 k)) (ht : W.cell? ta = some old) (hf : W.frozen? ta = false) :
    (ReflectliteValue.set #[.agg #[.pointer (some ⟨1, 25, none⟩), .pointer (some ta), .int .u64 386], .agg #[.pointer (some ⟨1, 25, none⟩), .pointer (some b), .int .u64 130]]).run Tryd.prog W
      = .ok (.tuple #[]) (W.setCell ta (.int .i64 k)) := by
  rw [rls]
  simp only [Sem.run_bind, Tryd.partsKa, Tryd.partsK, Result.andThen]
  simp [ReflectliteValue.flagAddr, loadVar, isAgg, underlying, Tryd.underlying25, hb, Result.andThen, Tryd.directK, storeVar, Value.cells, storeCells, Addr.add]
  rw [run_store Tryd.prog W ta _ _ (by rfl)]
  simp [ht, hf]

/-! what errors.as's assertions find at a Kind -/
theorem Tryd.noAsK (v : Value) (xT : TypeId) (w : World) : (Instr.typeAssert (.iface 25 v) xT 198 true).run Tryd.prog w = .ok (.tuple #[.nilIface, .bool false]) w := run_typeAssert_lacksB Tryd.underlying198 (by kernel_rfl) (by kernel_rfl) v xT w
theorem Tryd.noUnwrapK (v : Value) (xT : TypeId) (w : World) : (Instr.typeAssert (.iface 25 v) xT 190 true).run Tryd.prog w = .ok (.tuple #[.nilIface, .bool false]) w := run_typeAssert_lacksB Tryd.underlying190 (by kernel_rfl) (by kernel_rfl) v xT w
theorem Tryd.noUnwrapsK (v : Value) (xT : TypeId) (w : World) : (Instr.typeAssert (.iface 25 v) xT 191 true).run Tryd.prog w = .ok (.tuple #[.nilIface, .bool false]) w := run_typeAssert_lacksB Tryd.underlying191 (by kernel_rfl) (by kernel_rfl) v xT w

theorem x123 (args : Array Value) (w : World) : (callFunc 101 args).run Tryd.prog w = (((fun args => ReflectliteValue.unpack (args.getD 0 (.tuple #[]))) args : Sem Value).run Tryd.prog w).andThen fun v w' => .ok (.value v) w' :=
  @run_callFunc_extern Tryd.prog 101 _ (fun args => ReflectliteValue.unpack (args.getD 0 (.tuple #[]))) Tryd.func101 (by kernel_rfl) (by kernel_rfl) (by kernel_rfl) (by kernel_rfl) args w
theorem x124 (args : Array Value) (w : World) : (callFunc 102 args).run Tryd.prog w = (((ReflectliteValue.methodAny (ReflectliteValue.valueError "reflectlite.Value.Type" 0) (fun t _ _ _ => ReflectliteType.toType t)) args : Sem Value).run Tryd.prog w).andThen fun v w' => .ok (.value v) w' :=
  @run_callFunc_extern Tryd.prog 102 _ (ReflectliteValue.methodAny (ReflectliteValue.valueError "reflectlite.Value.Type" 0) (fun t _ _ _ => ReflectliteType.toType t)) Tryd.func102 (by kernel_rfl) (by kernel_rfl) (by kernel_rfl) (by kernel_rfl) args w
theorem x125 (args : Array Value) (w : World) : (callFunc 103 args).run Tryd.prog w = (((ReflectliteValue.method (ReflectliteValue.valueError "reflectlite.Value.IsNil" 0) ReflectliteValue.isNil) args : Sem Value).run Tryd.prog w).andThen fun v w' => .ok (.value v) w' :=
  @run_callFunc_extern Tryd.prog 103 _ (ReflectliteValue.method (ReflectliteValue.valueError "reflectlite.Value.IsNil" 0) ReflectliteValue.isNil) Tryd.func103 (by kernel_rfl) (by kernel_rfl) (by kernel_rfl) (by kernel_rfl) args w
theorem x146 (args : Array Value) (w : World) : (callFunc 130 args).run Tryd.prog w = (((ReflectliteType.abiMethod fun t => do pure (.int .u8 (← Rtype.kind t))) args : Sem Value).run Tryd.prog w).andThen fun v w' => .ok (.value v) w' :=
  @run_callFunc_extern Tryd.prog 130 _ (ReflectliteType.abiMethod fun t => do pure (.int .u8 (← Rtype.kind t))) Tryd.func130 (by kernel_rfl) (by kernel_rfl) (by kernel_rfl) (by kernel_rfl) args w
theorem x162 (args : Array Value) (w : World) : (callFunc 146 args).run Tryd.prog w = (((ReflectliteType.method ReflectliteType.elem) args : Sem Value).run Tryd.prog w).andThen fun v w' => .ok (.value v) w' :=
  @run_callFunc_extern Tryd.prog 146 _ (ReflectliteType.method ReflectliteType.elem) Tryd.func146 (by kernel_rfl) (by kernel_rfl) (by kernel_rfl) (by kernel_rfl) args w
theorem x163 (args : Array Value) (w : World) : (callFunc 147 args).run Tryd.prog w = (((ReflectliteType.relation "Implements" ReflectliteType.implements_) args : Sem Value).run Tryd.prog w).andThen fun v w' => .ok (.value v) w' :=
  @run_callFunc_extern Tryd.prog 147 _ (ReflectliteType.relation "Implements" ReflectliteType.implements_) Tryd.func147 (by kernel_rfl) (by kernel_rfl) (by kernel_rfl) (by kernel_rfl) args w
theorem x99 (args : Array Value) (w : World) : (callFunc 76 args).run Tryd.prog w = ((ReflectliteType.typeOf args : Sem Value).run Tryd.prog w).andThen fun v w' => .ok (.value v) w' :=
  @run_callFunc_extern Tryd.prog 76 _ ReflectliteType.typeOf Tryd.func76 (by kernel_rfl) (by kernel_rfl) (by kernel_rfl) (by kernel_rfl) args w
theorem x160 (args : Array Value) (w : World) : (callFunc 144 args).run Tryd.prog w = (((ReflectliteType.relation "AssignableTo" ReflectliteType.assignableTo) args : Sem Value).run Tryd.prog w).andThen fun v w' => .ok (.value v) w' :=
  @run_callFunc_extern Tryd.prog 144 _ (ReflectliteType.relation "AssignableTo" ReflectliteType.assignableTo) Tryd.func144 (by kernel_rfl) (by kernel_rfl) (by kernel_rfl) (by kernel_rfl) args w
theorem x129 (args : Array Value) (w : World) : (callFunc 110 args).run Tryd.prog w = (((ReflectliteValue.method (ReflectliteValue.valueError "reflectlite.Value.Elem" 0) ReflectliteValue.elem) args : Sem Value).run Tryd.prog w).andThen fun v w' => .ok (.value v) w' :=
  @run_callFunc_extern Tryd.prog 110 _ (ReflectliteValue.method (ReflectliteValue.valueError "reflectlite.Value.Elem" 0) ReflectliteValue.elem) Tryd.func110 (by kernel_rfl) (by kernel_rfl) (by kernel_rfl) (by kernel_rfl) args w
theorem x130 (args : Array Value) (w : World) : (callFunc 111 args).run Tryd.prog w = ((ReflectliteValue.set args : Sem Value).run Tryd.prog w).andThen fun v w' => .ok (.value v) w' :=
  @run_callFunc_extern Tryd.prog 111 _ ReflectliteValue.set Tryd.func111 (by kernel_rfl) (by kernel_rfl) (by kernel_rfl) (by kernel_rfl) args w

end Go.Proofs.YtljmklohgpaopaaDoor

namespace Go.Proofs.YtljmklohgpaopaaDoor
open Go.RowKit Go.Extern.Stop Go.Stop Go.Extern


set_option maxHeartbeats 4000000 in
set_option maxRecDepth 100000 in
theorem as_P_hit (e : Addr) (g : Nat) (old : Value) (w : World) (hG : GE w) (hb : Blk w g 138 [old]) :
    Calls Tryd.prog 75 #[.iface 138 (.pointer (some e)), .iface 140 (.pointer (some ⟨g, 0, none⟩))] w fun ev w' => ev = .returned (.bool true) ∧ w.grownBy w' (some g) ∧ Blk w' g 138 [.pointer (some e)] := by
  have hlt : g < w.heap.size := hb.lt
  have h0 : w.cell? ⟨0, 0, none⟩ = some (.iface 185 (.agg #[.pointer (some ⟨1, 70, none⟩)])) := hG
  have hz := World.block_lt_of_cell? _ _ h0
  have y1 := x123
  have y2 := x124
  have y3 := x125
  have y4 := x146
  have y5 := x162
  have y6 := x163
  have y7 := x99
  have y8 := x160
  have y9 := x129
  have y10 := x130
  have f1 := Tryd.valueOfPP
  have f2 := Tryd.typePP
  have f3 := Tryd.methodKind
  have f4 := Tryd.kindPP
  have f5 := Tryd.kindP
  have f6 := Tryd.methodElem
  have f7 := Tryd.methodImplements
  have f8 := Tryd.methodAssignableTo
  have f9 := Tryd.elemPP
  have f10 := Tryd.implementsP
  have f11 := Tryd.typeOfP
  have f12 := Tryd.assignablePP
  have f13 := Tryd.valueOfP
  have f14 := Tryd.isNilPP
  have el := Tryd.elemVPP ⟨w.heap.size, 0, none⟩ ⟨g, 0, none⟩ (((w.alloc (.cells #[.pointer (some ⟨g, 0, none⟩)] 140)).alloc (.cells #[.pointer (some ⟨1, 140, none⟩), .pointer (some ⟨w.heap.size, 0, none⟩), .int .u64 150] 177)).alloc (.cells #[.pointer (some ⟨1, 140, none⟩), .pointer (some ⟨w.heap.size, 0, none⟩), .int .u64 150] 177))
    (by rw [World.cell?_alloc_lt _ _ ⟨w.heap.size, 0, none⟩ (by simp; omega), World.cell?_alloc_lt _ _ ⟨w.heap.size, 0, none⟩ (by simp)]; simp)
  have st := Tryd.setP ⟨g, 0, none⟩ ⟨w.heap.size + 1 + 1 + 1, 0, none⟩ e old ((((w.alloc (.cells #[.pointer (some ⟨g, 0, none⟩)] 140)).alloc (.cells #[.pointer (some ⟨1, 140, none⟩), .pointer (some ⟨w.heap.size, 0, none⟩), .int .u64 150] 177)).alloc (.cells #[.pointer (some ⟨1, 140, none⟩), .pointer (some ⟨w.heap.size, 0, none⟩), .int .u64 150] 177)).alloc (.cells #[.pointer (some e)] 138))
    (by rw [World.cell?_alloc_at _ _ _ _ (by simp)]; rfl)
    (by rw [((((hb.alloc _).alloc _).alloc _).alloc _).cell 0]; rfl)
    (((((hb.alloc _).alloc _).alloc _).alloc _).frozen 0)
  have hc := hb.cell 0
  have hf := hb.frozen 0
  simp only [List.getElem?_cons_zero] at hc
  go_enter Tryd.func75, Tryd.ntmps75
  go_wp2
  refine wp_loop_rounds 1 ?_
  rw [rounds_succ]
  go_wp2
  go_ret
  exact ⟨rfl, only_setCell (only_alloc (only_alloc (only_alloc (only_alloc (World.grownBy.refl w _) _) _) _) _) (.inl rfl) _, ((((hb.alloc _).alloc _).alloc _).alloc _).set_ 0 _⟩


set_option maxHeartbeats 4000000 in
set_option maxRecDepth 100000 in
theorem as_K_hit (k : Int) (g : Nat) (old : Value) (w : World) (hG : GE w) (hb : Blk w g 25 [old]) :
    Calls Tryd.prog 75 #[.iface 25 (.int .i64 k), .iface 143 (.pointer (some ⟨g, 0, none⟩))] w fun ev w' => ev = .returned (.bool true) ∧ w.grownBy w' (some g) ∧ Blk w' g 25 [.int .i64 k] := by
  have hlt : g < w.heap.size := hb.lt
  have h0 : w.cell? ⟨0, 0, none⟩ = some (.iface 185 (.agg #[.pointer (some ⟨1, 70, none⟩)])) := hG
  have hz := World.block_lt_of_cell? _ _ h0
  have y1 := x123
  have y2 := x124
  have y3 := x125
  have y4 := x146
  have y5 := x162
  have y6 := x163
  have y7 := x99
  have y8 := x160
  have y9 := x129
  have y10 := x130
  have f1 := Tryd.valueOfPK
  have f2 := Tryd.typePK
  have f3 := Tryd.methodKind
  have f4 := Tryd.kindPK
  have f5 := Tryd.kindK
  have f6 := Tryd.methodElem
  have f7 := Tryd.methodImplements
  have f8 := Tryd.methodAssignableTo
  have f9 := Tryd.elemPK
  have f10 := Tryd.implementsK
  have f11 := Tryd.typeOfK
  have f12 := Tryd.assignableKK
  have f13 := Tryd.valueOfK
  have f14 := Tryd.isNilPK
  have el := Tryd.elemVPK ⟨w.heap.size, 0, none⟩ ⟨g, 0, none⟩ (((w.alloc (.cells #[.pointer (some ⟨g, 0, none⟩)] 143)).alloc (.cells #[.pointer (some ⟨1, 143, none⟩), .pointer (some ⟨w.heap.size, 0, none⟩), .int .u64 150] 177)).alloc (.cells #[.pointer (some ⟨1, 143, none⟩), .pointer (some ⟨w.heap.size, 0, none⟩), .int .u64 150] 177))
    (by rw [World.cell?_alloc_lt _ _ ⟨w.heap.size, 0, none⟩ (by simp; omega), World.cell?_alloc_lt _ _ ⟨w.heap.size, 0, none⟩ (by simp)]; simp)
  have st := Tryd.setK ⟨g, 0, none⟩ ⟨w.heap.size + 1 + 1 + 1, 0, none⟩ k old ((((w.alloc (.cells #[.pointer (some ⟨g, 0, none⟩)] 143)).alloc (.cells #[.pointer (some ⟨1, 143, none⟩), .pointer (some ⟨w.heap.size, 0, none⟩), .int .u64 150] 177)).alloc (.cells #[.pointer (some ⟨1, 143, none⟩), .pointer (some ⟨w.heap.size, 0, none⟩), .int .u64 150] 177)).alloc (.cells #[.int .i64 k] 25))
    (by rw [World.cell?_alloc_at _ _ _ _ (by simp)]; rfl)
    (by rw [((((hb.alloc _).alloc _).alloc _).alloc _).cell 0]; rfl)
    (((((hb.alloc _).alloc _).alloc _).alloc _).frozen 0)
  have hc := hb.cell 0
  have hf := hb.frozen 0
  simp only [List.getElem?_cons_zero] at hc
  go_enter Tryd.func75, Tryd.ntmps75
  go_wp2
  refine wp_loop_rounds 1 ?_
  rw [rounds_succ]
  go_wp2
  go_ret
  exact ⟨rfl, only_setCell (only_alloc (only_alloc (only_alloc (only_alloc (World.grownBy.refl w _) _) _) _) _) (.inl rfl) _, ((((hb.alloc _).alloc _).alloc _).alloc _).set_ 0 _⟩


set_option maxHeartbeats 4000000 in
set_option maxRecDepth 100000 in
theorem as_K_miss (k : Int) (g : Nat) (old : Value) (w : World) (hG : GE w) (hb : Blk w g 138 [old]) :
    Calls Tryd.prog 75 #[.iface 25 (.int .i64 k), .iface 140 (.pointer (some ⟨g, 0, none⟩))] w fun ev w' => ev = .returned (.bool false) ∧ Below w.heap.size w w' := by
  have hlt : g < w.heap.size := hb.lt
  have h0 : w.cell? ⟨0, 0, none⟩ = some (.iface 185 (.agg #[.pointer (some ⟨1, 70, none⟩)])) := hG
  have hz := World.block_lt_of_cell? _ _ h0
  have y1 := x123
  have y2 := x124
  have y3 := x125
  have y4 := x146
  have y5 := x162
  have y6 := x163
  have y7 := x99
  have y8 := x160
  have y9 := x129
  have y10 := x130
  have f1 := Tryd.valueOfPP
  have f2 := Tryd.typePP
  have f3 := Tryd.methodKind
  have f4 := Tryd.kindPP
  have f5 := Tryd.kindP
  have f6 := Tryd.methodElem
  have f7 := Tryd.methodImplements
  have f8 := Tryd.methodAssignableTo
  have f9 := Tryd.elemPP
  have f10 := Tryd.implementsP
  have f11 := Tryd.typeOfK
  have f12 := Tryd.assignableKP
  have n1 := Tryd.noAsK
  have n2 := Tryd.noUnwrapK
  have n3 := Tryd.noUnwrapsK
  have f14 := Tryd.isNilPP
  have hc := hb.cell 0
  have hf := hb.frozen 0
  simp only [List.getElem?_cons_zero] at hc
  go_enter Tryd.func75, Tryd.ntmps75
  go_wp2
  refine wp_loop_rounds 1 ?_
  rw [rounds_succ]
  go_wp2
  go_ret
  exact ⟨rfl, (((Below.refl _ _).alloc (Nat.le_refl _) _).alloc (by simp) _).alloc (by simp; omega) _⟩

end Go.Proofs.YtljmklohgpaopaaDoor

namespace Go.Proofs.YtljmklohgpaopaaDoor
open Go.RowKit Go.Extern.Stop Go.Stop Go.Extern

section
variable {P : Program} (w : World)
theorem run_equalIn_iface_int (d : Nat) {ti tn : TypeId} {ms : Array (String × TypeId)} {i : TypeInfo} {k : IntKind} (a b : Int)
    (hi : P.underlying ti = some (.interface ms)) (hn : P.underlying tn = some (.int k)) (hinfo : P.info? tn = some i) (hcomp : i.comparable = true) :
    (Op.equalIn (d + 2) ti (.iface tn (.int k a)) (.iface tn (.int k b))).run P w = .ok (a == b) w := by
  simp [Op.equalIn, run_underlying hi, run_underlying hn, typeInfo, hinfo, hcomp]
/-- 'x == y', both interface values of one integer type: as the numbers are. -/
theorem run_eql_iface_int {ti tn : TypeId} {ms : Array (String × TypeId)} {i : TypeInfo} {k : IntKind} (a b : Int)
    (hi : P.underlying ti = some (.interface ms)) (hn : P.underlying tn = some (.int k)) (hinfo : P.info? tn = some i) (hcomp : i.comparable = true) :
    (binOp .eql ti (.iface tn (.int k a)) (.iface tn (.int k b))).run P w = .ok (.bool (a == b)) w := by
  simp only [binOp]
  simp [Op.equal, Op.maxDepth, run_equalIn_iface_int w 9998 a b hi hn hinfo hcomp]
end

def cmpEntry : Array Value → Sem Value := ReflectliteType.method fun t => do Rtype.noPackHeld "Comparable" t; pure (.bool (← typeInfo t).comparable)
theorem Tryd.isComparableK (w : World) : (cmpEntry #[.agg #[.pointer (some ⟨1, 25, none⟩)]]).run Tryd.prog w = .ok (.bool true) w := by kernel_rfl
theorem Tryd.methodComparable (v : Value) (w : World) : (Go.method 332 185 v "Comparable").run Tryd.prog w = .ok (145, v) w := by kernel_rfl
theorem Tryd.compK : (Tryd.prog.info? 25).map (·.comparable) = some true := by kernel_rfl
theorem Tryd.noIsK (v : Value) (xT : TypeId) (w : World) : (Instr.typeAssert (.iface 25 v) xT 187 true).run Tryd.prog w = .ok (.tuple #[.nilIface, .bool false]) w := run_typeAssert_lacksB Tryd.underlying187 (by kernel_rfl) (by kernel_rfl) v xT w
theorem Tryd.noIsP (v : Value) (xT : TypeId) (w : World) : (Instr.typeAssert (.iface 138 v) xT 187 true).run Tryd.prog w = .ok (.tuple #[.nilIface, .bool false]) w := run_typeAssert_lacksB Tryd.underlying187 (by kernel_rfl) (by kernel_rfl) v xT w
theorem Tryd.hasUnwrapP (v : Value) (xT : TypeId) (w : World) : (Instr.typeAssert (.iface 138 v) xT 190 true).run Tryd.prog w = .ok (.tuple #[.iface 138 v, .bool true]) w := run_typeAssert_hasB Tryd.underlying190 (by kernel_rfl) v xT w
theorem Tryd.methodUnwrapP (a : Addr) (w : World) : (Go.method 332 138 (.pointer (some a)) "Unwrap").run Tryd.prog w = .ok (136, .pointer (some a)) w := by kernel_rfl
theorem x161 (args : Array Value) (w : World) : (callFunc 145 args).run Tryd.prog w = ((cmpEntry args).run Tryd.prog w).andThen fun v w' => .ok (.value v) w' :=
  @run_callFunc_extern Tryd.prog 145 _ cmpEntry Tryd.func145 (by kernel_rfl) (by kernel_rfl) (by kernel_rfl) (by kernel_rfl) args w

/-- errors.Is(nil, kind). -/
theorem is_nil (i : Int) (w : World) :
    Calls Tryd.prog 53 #[.nilIface, .iface 25 (.int .i64 i)] w fun e w' => e = .returned (.bool false) ∧ w = w' := by
  have hn := run_eql_iface_nil_left (P := Tryd.prog) w 25 (.int .i64 i) Tryd.underlying70
  go_enter Tryd.func53, Tryd.ntmps53
  go_wp2
  go_ret
  exact ⟨rfl, rfl⟩

set_option maxHeartbeats 1000000 in
set_option maxRecDepth 100000 in
/-- errors.Is(kind, kind). -/
theorem is_kind (k i : Int) (w : World) :
    Calls Tryd.prog 53 #[.iface 25 (.int .i64 k), .iface 25 (.int .i64 i)] w fun e w' => e = .returned (.bool (k == i)) ∧ w = w' := by
  obtain ⟨ti, hi, hcmp⟩ := Option.map_eq_some_iff.1 Tryd.compK
  have y1 := x99
  have y2 := x161
  have f1 := Tryd.typeOfK
  have f2 := Tryd.isComparableK
  have f3 := Tryd.methodComparable
  have n1 := Tryd.noIsK
  have n2 := Tryd.noUnwrapK
  have n3 := Tryd.noUnwrapsK
  have heq := run_eql_iface_int (P := Tryd.prog) w k i Tryd.underlying70 Tryd.underlying25 hi hcmp
  cases hki : (k == i)
  all_goals
    rw [hki] at heq
    clear hki hi hcmp
    go_enter Tryd.func53, Tryd.ntmps53
    go_wp2
    refine wp_loop_rounds 1 ?_
    rw [rounds_succ]
    go_wp2
    go_ret
    exact ⟨rfl, rfl⟩

set_option maxHeartbeats 2000000 in
set_option maxRecDepth 100000 in
/-- errors.Is(table error, kind). -/
theorem is_table (g : Nat) (t : Value) (k i : Int) (w : World) (hb : Blk w g 142 [t, .int .i64 k]) :
    Calls Tryd.prog 53 #[.iface 138 (.pointer (some ⟨g, 0, none⟩)), .iface 25 (.int .i64 i)] w fun e w' => e = .returned (.bool (k == i)) ∧ w = w' := by
  obtain ⟨ti, hi, hcmp⟩ := Option.map_eq_some_iff.1 Tryd.compK
  have y1 := x99
  have y2 := x161
  have f1 := Tryd.typeOfK
  have f2 := Tryd.isComparableK
  have f3 := Tryd.methodComparable
  have n1 := Tryd.noIsK
  have n2 := Tryd.noUnwrapK
  have n3 := Tryd.noUnwrapsK
  have n4 := Tryd.noIsP
  have n5 := Tryd.hasUnwrapP
  have n6 := Tryd.methodUnwrapP
  have hc := hb.cell 1
  simp only [List.getElem?_cons_succ, List.getElem?_cons_zero] at hc
  have heq := run_eql_iface_int (P := Tryd.prog) w k i Tryd.underlying70 Tryd.underlying25 hi hcmp
  have hty := run_eql_iface_types (P := Tryd.prog) 138 25 (.pointer (some ⟨g, 0, none⟩)) (.int .i64 i) Tryd.underlying70 (by decide) w
  cases hki : (k == i)
  all_goals
    rw [hki] at heq
    clear hki hi hcmp
    go_enter Tryd.func53, Tryd.ntmps53
    go_wp2
    refine wp_loop_rounds 2 ?_
    rw [rounds_succ]
    go_wp2
    rw [rounds_succ]
    go_wp2
    go_ret
    exact ⟨rfl, rfl⟩
end Go.Proofs.YtljmklohgpaopaaDoor

namespace Go.Proofs.YtljmklohgpaopaaDoor
open Go.RowKit Go.Extern.Stop Go.Stop Go.Extern

/-- The value is an error of this kind (0: none), of this table. -/
def ErrV (w : World) (v : Value) (k : Nat) (t : ByteArray) : Prop :=
  (v = .nilIface ∧ k = 0 ∧ t = ⟨#[]⟩) ∨ (v = .iface 25 (.int .i64 (k : Int)) ∧ t = ⟨#[]⟩) ∨
    ∃ g, v = .iface 138 (.pointer (some ⟨g, 0, none⟩)) ∧ Blk w g 142 [.string t, .int .i64 (k : Int)]
theorem ErrV.nil (w : World) : ErrV w .nilIface 0 ⟨#[]⟩ := .inl ⟨rfl, rfl, rfl⟩
theorem ErrV.kind (w : World) (k : Nat) : ErrV w (.iface 25 (.int .i64 (k : Int))) k ⟨#[]⟩ := .inr (.inl ⟨rfl, rfl⟩)
theorem ErrV.below {w w' : World} {v : Value} {k : Nat} {t : ByteArray} (h : ErrV w v k t) (hb : Below w.heap.size w w') : ErrV w' v k t := by
  rcases h with h | h | ⟨g, h, hg⟩
  · exact .inl h
  · exact .inr (.inl h)
  · exact .inr (.inr ⟨g, h, hg.below hb hg.lt⟩)
theorem GE.below {w w' : World} (h : GE w) (hb : Below w.heap.size w w') : GE w' := by
  have hz := World.block_lt_of_cell? _ _ h
  exact (hb.cell (p := ⟨0, 0, none⟩) hz).trans h
theorem GE.lt {w : World} (h : GE w) : 0 < w.heap.size := World.block_lt_of_cell? _ _ h

theorem told0_nil (w : World) (hG : GE w) :
    Calls Tryd.prog 52 #[.nilIface] w fun e w' => e = .returned (.tuple #[.int .i64 0, .string ⟨#[]⟩]) ∧ Below w.heap.size w w' := by
  go_enter Tryd.func52, Tryd.ntmps52
  go_wp2_with fail
  refine (as_nil _ _).mono ?_
  rintro e w' ⟨rfl, rfl⟩
  go_wp2_with fail
  refine (as_nil _ _).mono ?_
  rintro e w' ⟨rfl, rfl⟩
  go_wp2_with fail
  go_ret2
  exact ⟨rfl, ((Below.refl _ _).alloc (Nat.le_refl _) _).alloc (by simp) _⟩

theorem GE.alloc {w : World} (h : GE w) (o : Obj) : GE (w.alloc o) := h.below ((Below.refl _ _).alloc (Nat.le_refl _) _)

set_option maxHeartbeats 1000000 in
theorem told0_kind (k : Int) (w : World) (hG : GE w) :
    Calls Tryd.prog 52 #[.iface 25 (.int .i64 k)] w fun e w' => e = .returned (.tuple #[.int .i64 k, .string ⟨#[]⟩]) ∧ Below w.heap.size w w' := by
  go_enter Tryd.func52, Tryd.ntmps52
  go_wp2_with fail
  refine (as_K_miss k w.heap.size _ _ (hG.alloc _) (Blk.new w _ _)).mono ?_
  rintro e w1 ⟨rfl, hb1⟩
  have hs1 := hb1.size
  simp only [World.size_alloc] at hs1
  go_wp2_with fail
  refine (as_K_hit k w1.heap.size _ _ (((hG.alloc _).below hb1).alloc _) (Blk.new w1 _ _)).mono ?_
  rintro e w2 ⟨rfl, hon, hblk⟩
  have hc := hblk.cell 0
  simp only [List.getElem?_cons_zero] at hc
  go_wp2_with fail
  go_ret2
  have h1 : Below w.heap.size w w1 := ((Below.refl _ _).alloc (Nat.le_refl _) _).trans (hb1.mono (by simp))
  exact ⟨rfl, (h1.alloc h1.size _).trans (below_of_only hon h1.size (by have := h1.size; simp; omega))⟩

set_option maxHeartbeats 1000000 in
theorem told0_table (g : Nat) (t : ByteArray) (k : Int) (w : World) (hG : GE w) (hb : Blk w g 142 [.string t, .int .i64 k]) :
    Calls Tryd.prog 52 #[.iface 138 (.pointer (some ⟨g, 0, none⟩))] w fun e w' => e = .returned (.tuple #[.int .i64 k, .string t]) ∧ Below w.heap.size w w' := by
  go_enter Tryd.func52, Tryd.ntmps52
  go_wp2_with fail
  refine (as_P_hit ⟨g, 0, none⟩ w.heap.size _ _ (hG.alloc _) (Blk.new w _ _)).mono ?_
  rintro e w2 ⟨rfl, hon, hblk⟩
  have hc := hblk.cell 0
  simp only [List.getElem?_cons_zero] at hc
  have hb2 := (hb.alloc (.cells #[.pointer none] 138)).grown hon (by have := hb.lt; simp; omega)
  have hc0 := hb2.cell 0
  have hc1 := hb2.cell 1
  simp only [List.getElem?_cons_succ, List.getElem?_cons_zero] at hc0 hc1
  have hbel : Below w.heap.size w w2 := ((Below.refl _ _).alloc (Nat.le_refl _) _).trans (below_of_only hon (Nat.le_refl _) (by simp))
  have HB := Lib.hid hbel
  clear hbel hon hblk hb2 hb
  go_wp2_with fail
  go_quiet (fail)
  go_wp2_with fail
  go_ret2
  exact ⟨rfl, below_drewN HB.out _⟩

theorem told0_any (v : Value) (k : Nat) (t : ByteArray) (w : World) (hG : GE w) (h : ErrV w v k t) :
    Calls Tryd.prog 52 #[v] w fun e w' => e = .returned (.tuple #[.int .i64 (k : Int), .string t]) ∧ Below w.heap.size w w' := by
  rcases h with ⟨rfl, rfl, rfl⟩ | ⟨rfl, rfl⟩ | ⟨g, rfl, hb⟩
  · exact told0_nil w hG
  · exact told0_kind k w hG
  · exact told0_table g t k w hG hb
theorem is_any (v : Value) (k : Nat) (t : ByteArray) (i : Int) (w : World) (h : ErrV w v k t) (hi : 1 ≤ i) :
    Calls Tryd.prog 53 #[v, .iface 25 (.int .i64 i)] w fun e w' => e = .returned (.bool ((k : Int) == i)) ∧ w = w' := by
  rcases h with ⟨rfl, rfl, rfl⟩ | ⟨rfl, rfl⟩ | ⟨g, rfl, hb⟩
  · refine (is_nil i w).mono fun e w' ⟨he, hw⟩ => ⟨?_, hw⟩
    rw [he]
    have : (((0 : Nat) : Int) == i) = false := by simp; omega
    rw [this]
  · exact is_kind k i w
  · exact is_table g _ k i w hb

set_option maxHeartbeats 1000000 in
theorem told_any (v : Value) (k : Nat) (t : ByteArray) (w : World) (hG : GE w) (h : ErrV w v k t) (hk : k ≤ 21) :
    Calls Tryd.prog 24 #[v] w fun e w' => e = .returned (.agg #[.int .i64 (k : Int), .string t, .bool true]) ∧ Below w.heap.size w w' := by
  go_enter Tryd.func24, Tryd.ntmps24
  go_wp2_with fail
  refine (told0_any v k t _ (hG.alloc _) (h.below ((Below.refl _ _).alloc (Nat.le_refl _) _))).mono ?_
  rintro e w1 ⟨rfl, hb1⟩
  have hs1 := hb1.size
  simp only [World.size_alloc] at hs1
  have h1 : Below w.heap.size w w1 := ((Below.refl _ _).alloc (Nat.le_refl _) _).trans (hb1.mono (by simp))
  have hE := h.below (h1.trans ((Below.refl _ _).alloc h1.size (.cells #[.int .i64 (k : Int), .string t, .bool true] 27)))
  have hblk2 : Blk w1 w.heap.size 27 [.int .i64 0, .string ⟨#[]⟩, .bool false] := (Blk.new w 27 [.int .i64 0, .string ⟨#[]⟩, .bool false]).below hb1 (by simp)
  have H1 := Lib.hid h1
  have HB2 := Lib.hid hblk2
  have HE := Lib.hid hE
  clear h1 hb1 hblk2 hE h hG
  go_wp2_with fail
  go_loop [6] (fun i => ∃ n : Nat, 1 ≤ n ∧ n ≤ 22 ∧ i = .int .i64 (n : Int)) (fun i => 22 - (intOf i).toNat)
  case atStart => exact ⟨1, by omega, by omega, rfl⟩
  case round =>
    obtain ⟨n, hn1, hn2, rfl⟩ := hrel
    by_cases hlt : n ≤ 21
    · cases hkn : (((k : Nat) : Int) == (n : Int))
      all_goals
        have hnk : ((n : Int) == ((k : Nat) : Int)) = _ := Bool.beq_comm.trans hkn
        have HKN := Lib.hid hkn
        clear hkn
        go_wp2_with fail
        refine (is_any v k t n _ HE.out (by omega)).mono ?_
        rintro e w' ⟨rfl, rfl⟩
        rw [HKN.out]
        go_wp2_with fail
        go_round
        case rel => exact ⟨n + 1, by omega, by omega, by go_num⟩
        case measure => simp [intOf]; omega
    · have hB3 := HB2.out.alloc (.cells #[.int .i64 (k : Int), .string t, .bool true] 27)
      have c0 := hB3.cell 0
      have c1 := hB3.cell 1
      have c2 := hB3.cell 2
      have f0 := hB3.frozen 0
      have f1 := hB3.frozen 1
      have f2 := hB3.frozen 2
      simp only [List.getElem?_cons_succ, List.getElem?_cons_zero] at c0 c1 c2
      have hW := ((hB3.set_ 0 (.int .i64 (k : Int))).set_ 1 (.string t)).set_ 2 (.bool true)
      have HW := Lib.hid hW
      clear hB3 hW
      go_wp2_with fail
      have d0 := HW.out.cell 0
      have d1 := HW.out.cell 1
      have d2 := HW.out.cell 2
      simp only [List.set_cons_zero, List.set_cons_succ, List.getElem?_cons_succ, List.getElem?_cons_zero] at d0 d1 d2
      refine bodyPost_ret (v := .agg #[.int .i64 (k : Int), .string t, .bool true]) (by simp [results, Tryd.results24, go_sem, d0, d1, d2]) rfl ⟨rfl, ?_⟩
      exact (((H1.out.alloc H1.out.size _).setCell (Nat.le_refl _) _).setCell (Nat.le_refl _) _).setCell (Nat.le_refl _) _
end Go.Proofs.YtljmklohgpaopaaDoor

namespace Go.Proofs.YtljmklohgpaopaaDoor
open Go.RowKit

def errA (k : Int) (t : ByteArray) : Value := .agg #[.int .i64 k, .string t, .bool true]

/-- '==' between two errors in plain data. -/
theorem eql_err (k k' : Int) (t t' : ByteArray) (b b' : Bool) (w : World) :
    (binOp .eql 27 (.agg #[.int .i64 k, .string t, .bool b]) (.agg #[.int .i64 k', .string t', .bool b'])).run Tryd.prog w = .ok (.bool (k == k' && (t.toList == t'.toList && b == b'))) w := by
  have he := run_equalIn_struct (P := Tryd.prog) w 9999 27 #[.int .i64 k, .string t, .bool b] #[.int .i64 k', .string t', .bool b'] (by kernel_rfl) (by kernel_rfl)
  simp only [binOp]
  simp only [Op.equal, Op.maxDepth, Sem.run_bind, he]
  simp [go_sem, part]
  by_cases h1 : k = k' <;> by_cases h2 : t.toList = t'.toList <;> by_cases h3 : b = b' <;> simp [h1, h2, h3]

end Go.Proofs.YtljmklohgpaopaaDoor

namespace Go.Proofs.YtljmklohgpaopaaDoor
open Go.RowKit


end Go.Proofs.YtljmklohgpaopaaDoor

namespace Go.Proofs.YtljmklohgpaopaaDoor
open Go.RowKit

/-- The result in plain data stands in a cell of its own. -/
theorem results_err2 {fn : Func} {s t : Tmp} {tmps : Array Value} {w : World} {g : Nat} {v : Value} {k : Int} {u : ByteArray} (h : fn.results = #[.tmp s, .cell t 27]) (hv : tmps.getD s undef = v) (ht : tmps.getD t undef = .pointer (some ⟨g, 0, none⟩)) (hB : Blk w g 27 [.int .i64 k, .string u, .bool true]) :
    (results fn tmps).run Tryd.prog w = .ok (.tuple #[v, errA k u]) w := by
  have c0 := hB.cell 0
  have c1 := hB.cell 1
  have c2 := hB.cell 2
  simp only [List.getElem?_cons_succ, List.getElem?_cons_zero] at c0 c1 c2
  simp only [Array.getD_eq_getD_getElem?] at ht hv
  simp [results, h, ht, hv, go_sem, c0, c1, c2, errA, asAddr]

theorem facts3 {w : World} {g : Nat} {t : TypeId} {a0 a1 a2 : Value} (h : Blk w g t [a0, a1, a2]) :
    w.cell? ⟨g, 0, none⟩ = some a0 ∧ w.cell? ⟨g, 1, none⟩ = some a1 ∧ w.cell? ⟨g, 2, none⟩ = some a2 ∧
    w.frozen? ⟨g, 0, none⟩ = false ∧ w.frozen? ⟨g, 1, none⟩ = false ∧ w.frozen? ⟨g, 2, none⟩ = false :=
  ⟨h.cell 0, h.cell 1, h.cell 2, h.frozen 0, h.frozen 1, h.frozen 2⟩
theorem Blk.set3 {w : World} {g : Nat} {t : TypeId} {a0 a1 a2 : Value} (h : Blk w g t [a0, a1, a2]) (x0 x1 x2 : Value) :
    Blk (((w.setCell ⟨g, 0, none⟩ x0).setCell ⟨g, 1, none⟩ x1).setCell ⟨g, 2, none⟩ x2) g t [x0, x1, x2] :=
  ((h.set_ 0 x0).set_ 1 x1).set_ 2 x2
def err0 : Obj := .cells #[.int .i64 0, .string ⟨#[]⟩, .bool false] 27

end Go.Proofs.YtljmklohgpaopaaDoor

namespace Go.Proofs.YtljmklohgpaopaaDoor
open Go.RowKit

def lentV (g : Nat) (s : ByteArray) : Value := .slice (some ⟨g, 0, none⟩) s.size (s.size + 2)
def lc (gs : List Nat) (ss : List ByteArray) : List Value := List.zipWith lentV gs ss
/-- v is a row, of the call's own, of slices that 'lent' made. -/
structure Lent (w : World) (base : Nat) (v : Value) (gs : List Nat) (ss : List ByteArray) : Prop where
  len : gs.length = ss.length
  own : w.ownsRow base 23 1 v ss.length (lc gs ss)
  blk : ∀ (k g : Nat) (s : ByteArray), gs[k]? = some g → ss[k]? = some s → Blk w g 5 (lentRow s.data.toList)
  nodup : gs.Nodup
  far : ∀ g ∈ gs, base ≤ g ∧ v.ownBlock ≠ some g

theorem Lent.nil (w : World) (base : Nat) : Lent w base (.slice none 0 0) [] [] :=
  ⟨rfl, World.ownsRow_nil _ _ _ _, fun k g s h => by simp at h, List.nodup_nil, fun g h => by simp at h⟩
theorem Lent.lt {w : World} {base : Nat} {v : Value} {gs : List Nat} {ss : List ByteArray} (h : Lent w base v gs ss) : ∀ g ∈ gs, g < w.heap.size := by
  intro g hg
  obtain ⟨k, hk⟩ := List.mem_iff_getElem?.1 hg
  have hkl : k < ss.length := by
    rw [← h.len]
    rcases Nat.lt_or_ge k gs.length with h' | h'
    · exact h'
    · rw [List.getElem?_eq_none h'] at hk; cases hk
  exact (h.blk k g _ hk (List.getElem?_eq_getElem hkl)).lt
theorem Lent.below {w w' : World} {base : Nat} {v : Value} {gs : List Nat} {ss : List ByteArray} (h : Lent w base v gs ss) (hb : Below w.heap.size w w') : Lent w' base v gs ss :=
  ⟨h.len, own_below h.own hb, fun k g s h1 h2 => (h.blk k g s h1 h2).below hb (h.blk k g s h1 h2).lt, h.nodup, h.far⟩
theorem Tryd.infoSlice : (Tryd.prog.info? 23).map (fun i => (i.zero, i.size, i.bytes)) = some (some (.slice none 0 0), 1, 24) := by kernel_rfl

theorem slice_room {n m : Nat} (h : n + m ≤ 8796093022208) : ∀ old, old < n + m → Builtin.nextslicecap (n + m) old * 24 ≤ 281474976710656 := by
  intro old ho
  have := nextslicecap_le54 ho
  omega

theorem own_addr {w : World} {base : Nat} {e : TypeId} {size n : Nat} {v : Value} {xs : List Value} (h : w.ownsRow base e size v n xs) (hn : 0 < n) : ∃ g cap, v = .slice (some ⟨g, 0, none⟩) n cap ∧ base ≤ g ∧ n ≤ cap := by
  rcases h.2 with ⟨_, h0⟩ | ⟨g, cap, cur, hv, hb, _, hc, _⟩
  · omega
  · exact ⟨g, cap, hv, hb, hc⟩
theorem own_at {w : World} {base g cap : Nat} {e : TypeId} {size n : Nat} {xs : List Value} (h : w.ownsRow base e size (.slice (some ⟨g, 0, none⟩) n cap) n xs) (j : Nat) (u : Value) (hu : xs[j]? = some u) : w.cell? ⟨g, j, none⟩ = some u := by
  have := h.cells (g := g) rfl j u hu
  rwa [addr_add, Nat.zero_add] at this

end Go.Proofs.YtljmklohgpaopaaDoor

namespace Go.Proofs.YtljmklohgpaopaaDoor
namespace Pl

theorem be_get (s x j : Nat) (h : j < s) : (be s x)[j]? = some (UInt8.ofNat (x / 256 ^ (s - 1 - j))) := by
  induction s generalizing j with
  | zero => omega
  | succ s ih =>
    match j with
    | 0 => simp [be]
    | j + 1 =>
      rw [be, List.getElem?_cons_succ, ih j (by omega)]
      congr 4
      omega
theorem be_take_succ (s x j : Nat) (h : j < s) : (be s x).take (j + 1) = (be s x).take j ++ [UInt8.ofNat (x / 256 ^ (s - 1 - j))] := by
  have hl : j < (be s x).length := by rw [be_length]; exact h
  rw [List.take_succ_eq_append_getElem hl]
  have := be_get s x j h
  rw [List.getElem?_eq_getElem hl] at this
  rw [Option.some.inj this]

/-- A header: its block, the hash ahead, the root. -/
def header (b h r : Nat) : List UInt8 := 66 :: (be 4 b ++ be 4 h ++ be 4 r)
/-- Where headers lead. -/
def heads (b h : Nat) (l : List UInt8) : Option Nat :=
  if hl : l.length < 13 then some h
  else if b < 4294967296 ∧ l.take 9 = 66 :: (be 4 b ++ be 4 h) then heads (b + 1) (sumN (l.take 13)) (l.drop 13)
  else none
termination_by l.length
decreasing_by rw [List.length_drop]; omega
/-- Does a proof lead from one digest to another? -/
def extends_ (old : Int) (h : Nat) (to : Int) (g : Nat) (l : List UInt8) : Bool :=
  if old < 0 ∨ (old = 0 ∧ h ≠ 0) ∨ to < old ∨ l.length % 13 ≠ 0 ∨ ((l.length / 13 : Nat) : Int) ≠ to - old then false else heads (old.toNat + 1) h l == some g
end Pl
end Go.Proofs.YtljmklohgpaopaaDoor

namespace Go.Proofs.YtljmklohgpaopaaDoor
namespace Pl

/-- What evidence is made of. -/
structure Ev where
  n : List UInt8
  op : List UInt8
  ops : List UInt8
  time : List UInt8
  text : List UInt8
  p : List UInt8
  q : List UInt8
  last : List UInt8
  rest : List UInt8

/-- So many bytes are taken, or there is too little. -/
def bt (m : Nat) (l : List UInt8) (f : List UInt8 → List UInt8 → Option Ev) : Option Ev := if m ≤ l.length then f (l.take m) (l.drop m) else none
def parse (l : List UInt8) : Option Ev :=
  bt 4 l fun n l => bt 1 l fun op l => bt 1 l fun ops l => bt 8 l fun time l => bt 2 l fun k l => bt (num k) l fun text l =>
  bt 1 l fun k l => bt (4 * num k) l fun p l => bt 1 l fun k l => bt (4 * num k) l fun q l => bt 4 l fun last l => some ⟨n, op, ops, time, text, p, q, last, l⟩

/-- How a reader stands: it is bad, and there is no evidence; or the rest tells. -/
def St (o : Option Ev) (bad : Bool) (k : Option Ev) : Prop := (bad = true ∧ o = none) ∨ (bad = false ∧ o = k)
theorem St.take {o : Option Ev} {bad : Bool} {m : Nat} {l : List UInt8} {f : List UInt8 → List UInt8 → Option Ev} (h : St o bad (bt m l f)) : St o (bad || decide (l.length < m)) (f (l.take m) (l.drop m)) := by
  rcases h with ⟨rfl, h⟩ | ⟨rfl, h⟩
  · exact .inl ⟨rfl, h⟩
  · unfold bt at h
    by_cases hm : m ≤ l.length
    · rw [if_pos hm] at h
      exact .inr ⟨by simp; omega, h⟩
    · rw [if_neg hm] at h
      exact .inl ⟨by simp; omega, h⟩
theorem St.bad {o : Option Ev} {k : Option Ev} (h : St o true k) (k' : Option Ev) : St o true k' := by
  rcases h with h | ⟨h, _⟩
  · exact .inl h
  · cases h
theorem St.short {o : Option Ev} {bad : Bool} {m : Nat} {l : List UInt8} {f : List UInt8 → List UInt8 → Option Ev} (h : St o bad (bt m l f)) (hl : l.length < m) (k' : Option Ev) : St o true k' := by
  have := h.take
  rw [decide_eq_true hl, Bool.or_true] at this
  exact this.bad k'

/-- What is laid down of a transaction. -/
def entry (n : Nat) (time : List UInt8) (ops r : Nat) : List UInt8 := be 4 n ++ time ++ [UInt8.ofNat ops] ++ be 4 r
/-- Is it as it must be? -/
def Fits (e : Ev) : Prop := 1 ≤ num e.n ∧ num e.op < num e.ops ∧ num e.ops ≤ 16 ∧ (groups e.p).length = depth (num e.op) (num e.ops) ∧ (groups e.q).length = depth ((num e.n - 1) % 3) 3 ∧
  ((num e.n - 1) / 3 + 1 = 1 → num e.last = 0)
def blockOf (e : Ev) : Nat := (num e.n - 1) / 3 + 1
def headOf (e : Ev) : List UInt8 :=
  header (blockOf e) (num e.last) (climb (entry (num e.n) e.time (num e.ops) (climb e.text (num e.op) (num e.ops) (groups e.p))) ((num e.n - 1) % 3) 3 (groups e.q))
instance (e : Ev) : Decidable (Fits e) := by unfold Fits; infer_instance
/-- The op that evidence shows, if it leads to the digest. -/
def attested (l : List UInt8) (more : Int) (g : Nat) : Option (List UInt8) :=
  match parse l with
  | none => none
  | some e => if Fits e ∧ extends_ (blockOf e : Nat) (sumN (headOf e)) more g e.rest = true then some e.text else none
theorem snoc_ind {P : List UInt8 → Prop} (h0 : P []) (h1 : ∀ l c, P l → P (l ++ [c])) (l : List UInt8) : P l := by
  have h : ∀ r : List UInt8, P r.reverse := by
    intro r
    induction r with
    | nil => exact h0
    | cons c r ih => rw [List.reverse_cons]; exact h1 _ _ ih
  simpa using h l.reverse
theorem num_snoc (l : List UInt8) (c : UInt8) : num (l ++ [c]) = 256 * num l + c.toNat := by simp [num]
theorem num_lt (l : List UInt8) : num l < 256 ^ l.length := by
  refine snoc_ind (P := fun l => num l < 256 ^ l.length) (by simp [num]) (fun l c ih => ?_) l
  rw [num_snoc, List.length_append, List.length_singleton, Nat.pow_succ]
  have := c.toNat_lt
  omega
theorem num_take_lt (l : List UInt8) (k : Nat) : num (l.take k) < 256 ^ k :=
  Nat.lt_of_lt_of_le (num_lt _) (Nat.pow_le_pow_right (by decide) (by simp; omega))
theorem be_snoc (k v : Nat) : be (k + 1) v = be k (v / 256) ++ [UInt8.ofNat v] := by
  induction k generalizing v with
  | zero => simp [be]
  | succ k ih =>
    rw [be, ih v, be, List.cons_append]
    congr 2
    rw [Nat.div_div_eq_div_mul, Nat.pow_succ, Nat.mul_comm]
end Pl
end Go.Proofs.YtljmklohgpaopaaDoor
