/- The walk of sums.Climb. errors.As walked: a TableError into a TableError's pointer; a Kind into a TableError's pointer (no); a Kind into a Kind. errors.As walked: a TableError into a TableError's pointer; a Kind into a TableError's pointer (no); a Kind into a Kind. errors.Is by its contracts, at what the program hands it: nil, a Kind, a TableError, held against a Kind. api.Told and plain's told by their contracts: nil, a Kind, a table's error. The law Names walked: it returns true. The walks of the harness's is and bare, of plain's hash and Root. The walks of plain's Path and Climb. -/
import Derived.Test.YtljmklohgpaopaaDoorMgLogs3
import Derived.Test.YtljmklohgpaopaaDoorMgLogs1
import Derived.RegionTactic
import Derived.Deep.QuietTactic
import Derived.BigQuiet

namespace Go.Proofs.YtljmklohgpaopaaDoor
open Go.RowKit

theorem results_hash2 {fn : Func} {t s : Tmp} {tmps : Array Value} {w : World} {g n : Nat} {v : Value} (h : fn.results = #[.cell t 73, .tmp s]) (ht : tmps.getD t undef = .pointer (some ⟨g, 0, none⟩)) (hv : tmps.getD s undef = v) (hB : Blk w g 73 (hc n)) :
    (results fn tmps).run Tryd.prog w = .ok (.tuple #[hashVal n, v]) w := by
  have hl := loadVar_hash w g n hB
  simp only [Array.getD_eq_getD_getElem?] at ht hv
  simp [results, h, ht, hv, hl, asAddr]

theorem climbE_num (A P : Option Addr) (n cap k cp : Nat) (i m : Int) (w : World) (h : m < 1 ∨ 4096 < m ∨ i < 0 ∨ m ≤ i) :
    Calls Tryd.prog 86 #[.slice A n cap, .int .i64 i, .int .i64 m, .slice P k cp] w fun e w' => e = .returned (.tuple #[hashVal 0, .iface 25 (.int .i64 9)]) ∧ Below w.heap.size w w' := by
  by_cases h1 : m < 1
  · go_enter Tryd.func86, Tryd.ntmps86
    go_wp2_with fail
    exact bodyPost_ret (v := .tuple #[hashVal 0, _]) (results_hash2 (n := 0) rfl rfl rfl (Blk.hash0 w)) rfl ⟨rfl, (Below.refl _ _).alloc (Nat.le_refl _) _⟩
  · by_cases h2 : 4096 < m
    · go_enter Tryd.func86, Tryd.ntmps86
      go_wp2_with fail
      exact bodyPost_ret (v := .tuple #[hashVal 0, _]) (results_hash2 (n := 0) rfl rfl rfl (Blk.hash0 w)) rfl ⟨rfl, (Below.refl _ _).alloc (Nat.le_refl _) _⟩
    · by_cases h3 : i < 0
      · go_enter Tryd.func86, Tryd.ntmps86
        go_wp2_with fail
        exact bodyPost_ret (v := .tuple #[hashVal 0, _]) (results_hash2 (n := 0) rfl rfl rfl (Blk.hash0 w)) rfl ⟨rfl, (Below.refl _ _).alloc (Nat.le_refl _) _⟩
      · have h4 : m ≤ i := by omega
        go_enter Tryd.func86, Tryd.ntmps86
        go_wp2_with fail
        exact bodyPost_ret (v := .tuple #[hashVal 0, _]) (results_hash2 (n := 0) rfl rfl rfl (Blk.hash0 w)) rfl ⟨rfl, (Below.refl _ _).alloc (Nat.le_refl _) _⟩

theorem climbE_len (A P : Option Addr) (n cap k cp i m : Nat) (w : World) (hi : i < m) (hm : m ≤ 4096) (h : k ≠ Pl.depth i m) :
    Calls Tryd.prog 86 #[.slice A n cap, .int .i64 i, .int .i64 m, .slice P k cp] w fun e w' => e = .returned (.tuple #[hashVal 0, .iface 25 (.int .i64 9)]) ∧ Below w.heap.size w w' := by
  have h1 : ¬ (m : Int) < 1 := by omega
  have h2 : ¬ 4096 < (m : Int) := by omega
  have h3 : ¬ (i : Int) < 0 := by omega
  have h4 : ¬ (m : Int) ≤ i := by omega
  obtain ⟨d, hd⟩ : ∃ d, Pl.depth i m = d := ⟨_, rfl⟩
  rw [hd] at h
  have HD := Lib.hid hd
  have q : ((k : Int) != d) = true := by simp; omega
  have q2 : ¬ (k : Int) = d := by omega
  clear hd
  go_enter Tryd.func86, Tryd.ntmps86
  go_wp2_with fail
  refine (depth_any i m _ hi (by omega)).mono ?_
  rintro e w1 ⟨rfl, rfl⟩
  rw [HD.out]
  go_wp2_with fail
  exact bodyPost_ret (v := .tuple #[hashVal 0, _]) (results_hash2 (n := 0) rfl rfl rfl (Blk.hash0 w)) rfl ⟨rfl, (Below.refl _ _).alloc (Nat.le_refl _) _⟩

theorem climbE_good (l : List UInt8) (A P : Option Addr) (cap cp i m : Nat) (ps : List Nat) (w : World) (hl : l.length ≤ 140737488351232) (hi : i < m) (hm : m ≤ 4096) (hp : ps.length = Pl.depth i m) (hx : ∀ x ∈ ps, x < 4294967296)
    (hb : BytesAt w A l) (hs : Src w P (hcs ps)) (hcp : ps.length ≤ cp) :
    Calls Tryd.prog 86 #[.slice A l.length cap, .int .i64 i, .int .i64 m, .slice P ps.length cp] w fun e w' => e = .returned (.tuple #[hashVal (Pl.climb l i m ps), .nilIface]) ∧ Below w.heap.size w w' := by
  have h1 : ¬ (m : Int) < 1 := by omega
  have h2 : ¬ 4096 < (m : Int) := by omega
  have h3 : ¬ (i : Int) < 0 := by omega
  have h4 : ¬ (m : Int) ≤ i := by omega
  have hb0 : Below w.heap.size w (w.alloc (.cells #[.int .u8 0, .int .u8 0, .int .u8 0, .int .u8 0] 73)) := (Below.refl _ _).alloc (Nat.le_refl _) _
  have HC := Lib.hid (climb_any l A cap hl _ i m ps P cp _ (Nat.le_refl _) hi hm hp hx (hb.keep hb0) (hs.below hb0) hcp)
  obtain ⟨c, hc'⟩ : ∃ c, Pl.climb l i m ps = c := ⟨_, rfl⟩
  rw [hc'] at HC ⊢
  have HP := Lib.hid hp
  have q : ((Pl.depth i m : Int) != Pl.depth i m) = false := by simp
  clear hc' hp hb hs hb0
  go_enter Tryd.func86, Tryd.ntmps86
  go_wp2_with fail
  refine (depth_any i m _ hi (by omega)).mono ?_
  rintro e w1 ⟨rfl, rfl⟩
  rw [← HP.out]
  go_wp2_with fail
  refine HC.out.mono ?_
  rintro e w1 ⟨rfl, hb1⟩
  unfold hashVal
  have hB := (Blk.hash0 w).below hb1 (by simp)
  obtain ⟨c0, c1, c2, c3, f0, f1, f2, f3⟩ := facts4 hB
  have hB' := Lib.hid hB
  have H' := Lib.hid (((Below.refl w.heap.size w).alloc (Nat.le_refl _) _).trans (hb1.mono (by simp)))
  clear hB hb1
  go_wp2_with fail
  refine bodyPost_ret (v := .tuple #[hashVal c, .nilIface]) (results_hash2 (n := c) rfl rfl rfl (hB'.out.set4 _ _ _ _)) rfl ⟨rfl, ?_⟩
  exact below_set4 H'.out (Nat.le_refl _) _ _ _ _
end Go.Proofs.YtljmklohgpaopaaDoor

namespace Go.Proofs.YtljmklohgpaopaaDoor
open Go.RowKit Go.Extern.Stop Go.Stop Go.Extern

theorem Tryd.elemOfPP (w : World) : (Rtype.elem? 140).run Tryd.prog w = .ok (some 138) w := by kernel_rfl
theorem Tryd.mkP (p : Addr) (w : World) : (ReflectliteValue.mk 138 p ReflectliteValue.flagAddr).run Tryd.prog w = .ok (.agg #[.pointer (some ⟨1, 138, none⟩), .pointer (some p), .int .u64 406]) w := by kernel_rfl
theorem Tryd.elemVPP (a p : Addr) (W : World) (ha : W.cell? a = some (.pointer (some p))) :
    (ReflectliteValue.method (ReflectliteValue.valueError "reflectlite.Value.Elem" 0) ReflectliteValue.elem #[.agg #[.pointer (some ⟨1, 140, none⟩), .pointer (some a), .int .u64 150]]).run Tryd.prog W
      = .ok (.agg #[.pointer (some ⟨1, 138, none⟩), .pointer (some p), .int .u64 406]) W := by
  rw [rlm]
  simp only [Sem.run_bind, Tryd.partsPP, Result.andThen]
  simp [ReflectliteValue.elem, loadVar, isAgg, underlying, Tryd.underlying140, ha, Result.andThen, Tryd.elemOfPP, Tryd.mkP]
theorem rls (v x : Value) : ReflectliteValue.set #[v, x] = (do
    let (some (dst, a, fl), some (src, b, _)) := (← ReflectliteValue.parts v, ← ReflectliteValue.parts x)
      | unsupported (.noEntry "extern/(internal/reflectlite.Value).Set.zeroValue")
    if fl / ReflectliteValue.flagAddr % 2 == 0 then unsupported (.noEntry "extern/(internal/reflectlite.Value).Set.unaddressable")
    let val ← loadVar src b
    if ← Rtype.directlyAssignable dst src then storeVar dst a val
    else if ← Rtype.implements dst src then
      if (← Rtype.kind src) == 20 then
        match val with
        | .nilIface => unsupported (.noEntry "extern/reflectlite: a nil value of one interface type handed on as a value of another")
        | _ => storeVar dst a val
      else storeVar dst a (.iface src val)
    else panicString ("reflectlite.Set: value of type " ++ (← Rtype.spelt src) ++ " is not assignable to type " ++ (← Rtype.spelt dst))
    pure (.tuple #[])) := rfl
theorem Tryd.partsPa (a : Addr) (w : World) : (ReflectliteValue.parts (.agg #[.pointer (some ⟨1, 138, none⟩), .pointer (some a), .int .u64 406])).run Tryd.prog w = .ok (some (138, a, 406)) w := by kernel_rfl
theorem Tryd.partsP (a : Addr) (w : World) : (ReflectliteValue.parts (.agg #[.pointer (some ⟨1, 138, none⟩), .pointer (some a), .int .u64 150])).run Tryd.prog w = .ok (some (138, a, 150)) w := by kernel_rfl
theorem Tryd.directP (w : World) : (Rtype.directlyAssignable 138 138).run Tryd.prog w = .ok true w := by kernel_rfl
theorem Tryd.setP (ta b e : Addr) (old : Value) (W : World) (hb : W.cell? b = some (.pointer (some e))) (ht : W.cell? ta = some old) (hf : W.frozen? ta = false) :
    (ReflectliteValue.set #[.agg #[.pointer (some ⟨1, 138, none⟩), .pointer (some ta), .int .u64 406], .agg #[.pointer (some ⟨1, 138, none⟩), .pointer (some b), .int .u64 150]]).run Tryd.prog W
      = .ok (.tuple #[]) (W.setCell ta (.pointer (some e))) := by
  rw [rls]
  simp only [Sem.run_bind, Tryd.partsPa, Tryd.partsP, Result.andThen]
  simp [ReflectliteValue.flagAddr, loadVar, isAgg, underlying, Tryd.underlying138, hb, Result.andThen, Tryd.directP, storeVar, Value.cells, storeCells, Addr.add]
  rw [run_store Tryd.prog W ta _ _ (by rfl)]
  simp [ht, hf]

theorem Tryd.elemOfPK (w : World) : (Rtype.elem? 143).run Tryd.prog w = .ok (some 25) w := by kernel_rfl
theorem Tryd.mkK (p : Addr) (w : World) : (ReflectliteValue.mk 25 p ReflectliteValue.flagAddr).run Tryd.prog w = .ok (.agg #[.pointer (some ⟨1, 25, none⟩), .pointer (some p), .int .u64 386]) w := by kernel_rfl
theorem Tryd.elemVPK (a p : Addr) (W : World) (ha : W.cell? a = some (.pointer (some p))) :
    (ReflectliteValue.method (ReflectliteValue.valueError "reflectlite.Value.Elem" 0) ReflectliteValue.elem #[.agg #[.pointer (some ⟨1, 143, none⟩), .pointer (some a), .int .u64 150]]).run Tryd.prog W
      = .ok (.agg #[.pointer (some ⟨1, 25, none⟩), .pointer (some p), .int .u64 386]) W := by
  rw [rlm]
  simp only [Sem.run_bind, Tryd.partsPK, Result.andThen]
  simp [ReflectliteValue.elem, loadVar, isAgg, underlying, Tryd.underlying143, ha, Result.andThen, Tryd.elemOfPK, Tryd.mkK]
theorem Tryd.partsKa (a : Addr) (w : World) : (ReflectliteValue.parts (.agg #[.pointer (some ⟨1, 25, none⟩), .pointer (some a), .int .u64 386])).run Tryd.prog w = .ok (some (25, a, 386)) w := by kernel_rfl
theorem Tryd.partsK (a : Addr) (w : World) : (ReflectliteValue.parts (.agg #[.pointer (some ⟨1, 25, none⟩), .pointer (some a), .int .u64 130])).run Tryd.prog w = .ok (some (25, a, 130)) w := by kernel_rfl
theorem Tryd.directK (w : World) : (Rtype.directlyAssignable 25 25).run Tryd.prog w = .ok true w := by kernel_rfl
theorem Tryd.setK (ta b : Addr) (k : Int) (old : Value) (W : World) (hb : W.cell? b = some (.int .i64 k)) (ht : W.cell? ta = some old) (hf : W.frozen? ta = false) :
    (ReflectliteValue.set #[.agg #[.pointer (some ⟨1, 25, none⟩), .pointer (some ta), .int .u64 386], .agg #[.pointer (some ⟨1, 25, none⟩), .pointer (some b), .int .u64 130]]).run Tryd.prog W
      = .ok (.tuple #[]) (W.setCell ta (.int .i64 k)) := by
  rw [rls]
  simp only [Sem.run_bind, Tryd.partsKa, Tryd.partsK, Result.andThen]
  simp [ReflectliteValue.flagAddr, loadVar, isAgg, underlying, Tryd.underlying25, hb, Result.andThen, Tryd.directK, storeVar, Value.cells, storeCells, Addr.add]
  rw [run_store Tryd.prog W ta _ _ (by rfl)]
  simp [ht, hf]

/-! what errors.as's assertions find at a Kind -/
theorem Tryd.noAsK (v : Value) (xT : TypeId) (w : World) : (Instr.typeAssert (.iface 25 v) xT 198 true).run Tryd.prog w = .ok (.tuple #[.nilIface, .bool false]) w := run_typeAssert_lacksB Tryd.underlying198 (by kernel_rfl) (by kernel_rfl) v xT w
theorem Tryd.noUnwrapK (v : Value) (xT : TypeId) (w : World) : (Instr.typeAssert (.iface 25 v) xT 190 true).run Tryd.prog w = .ok (.tuple #[.nilIface, .bool false]) w := run_typeAssert_lacksB Tryd.underlying190 (by kernel_rfl) (by kernel_rfl) v xT w
theorem Tryd.noUnwrapsK (v : Value) (xT : TypeId) (w : World) : (Instr.typeAssert (.iface 25 v) xT 191 true).run Tryd.prog w = .ok (.tuple #[.nilIface, .bool false]) w := run_typeAssert_lacksB Tryd.underlying191 (by kernel_rfl) (by kernel_rfl) v xT w

theorem x123 (args : Array Value) (w : World) : (callFunc 101 args).run Tryd.prog w = (((fun args => ReflectliteValue.unpack (args.getD 0 (.tuple #[]))) args : Sem Value).run Tryd.prog w).andThen fun v w' => .ok (.value v) w' :=
  @run_callFunc_extern Tryd.prog 101 _ (fun args => ReflectliteValue.unpack (args.getD 0 (.tuple #[]))) Tryd.func101 (by kernel_rfl) (by kernel_rfl) (by kernel_rfl) (by kernel_rfl) args w
theorem x124 (args : Array Value) (w : World) : (callFunc 102 args).run Tryd.prog w = (((ReflectliteValue.methodAny (ReflectliteValue.valueError "reflectlite.Value.Type" 0) (fun t _ _ _ => ReflectliteType.toType t)) args : Sem Value).run Tryd.prog w).andThen fun v w' => .ok (.value v) w' :=
  @run_callFunc_extern Tryd.prog 102 _ (ReflectliteValue.methodAny (ReflectliteValue.valueError "reflectlite.Value.Type" 0) (fun t _ _ _ => ReflectliteType.toType t)) Tryd.func102 (by kernel_rfl) (by kernel_rfl) (by kernel_rfl) (by kernel_rfl) args w
theorem x125 (args : Array Value) (w : World) : (callFunc 103 args).run Tryd.prog w = (((ReflectliteValue.method (ReflectliteValue.valueError "reflectlite.Value.IsNil" 0) ReflectliteValue.isNil) args : Sem Value).run Tryd.prog w).andThen fun v w' => .ok (.value v) w' :=
  @run_callFunc_extern Tryd.prog 103 _ (ReflectliteValue.method (ReflectliteValue.valueError "reflectlite.Value.IsNil" 0) ReflectliteValue.isNil) Tryd.func103 (by kernel_rfl) (by kernel_rfl) (by kernel_rfl) (by kernel_rfl) args w
theorem x146 (args : Array Value) (w : World) : (callFunc 130 args).run Tryd.prog w = (((ReflectliteType.abiMethod fun t => do pure (.int .u8 (← Rtype.kind t))) args : Sem Value).run Tryd.prog w).andThen fun v w' => .ok (.value v) w' :=
  @run_callFunc_extern Tryd.prog 130 _ (ReflectliteType.abiMethod fun t => do pure (.int .u8 (← Rtype.kind t))) Tryd.func130 (by kernel_rfl) (by kernel_rfl) (by kernel_rfl) (by kernel_rfl) args w
theorem x162 (args : Array Value) (w : World) : (callFunc 146 args).run Tryd.prog w = (((ReflectliteType.method ReflectliteType.elem) args : Sem Value).run Tryd.prog w).andThen fun v w' => .ok (.value v) w' :=
  @run_callFunc_extern Tryd.prog 146 _ (ReflectliteType.method ReflectliteType.elem) Tryd.func146 (by kernel_rfl) (by kernel_rfl) (by kernel_rfl) (by kernel_rfl) args w
theorem x163 (args : Array Value) (w : World) : (callFunc 147 args).run Tryd.prog w = (((ReflectliteType.relation "Implements" ReflectliteType.implements_) args : Sem Value).run Tryd.prog w).andThen fun v w' => .ok (.value v) w' :=
  @run_callFunc_extern Tryd.prog 147 _ (ReflectliteType.relation "Implements" ReflectliteType.implements_) Tryd.func147 (by kernel_rfl) (by kernel_rfl) (by kernel_rfl) (by kernel_rfl) args w
theorem x99 (args : Array Value) (w : World) : (callFunc 76 args).run Tryd.prog w = ((ReflectliteType.typeOf args : Sem Value).run Tryd.prog w).andThen fun v w' => .ok (.value v) w' :=
  @run_callFunc_extern Tryd.prog 76 _ ReflectliteType.typeOf Tryd.func76 (by kernel_rfl) (by kernel_rfl) (by kernel_rfl) (by kernel_rfl) args w
theorem x160 (args : Array Value) (w : World) : (callFunc 144 args).run Tryd.prog w = (((ReflectliteType.relation "AssignableTo" ReflectliteType.assignableTo) args : Sem Value).run Tryd.prog w).andThen fun v w' => .ok (.value v) w' :=
  @run_callFunc_extern Tryd.prog 144 _ (ReflectliteType.relation "AssignableTo" ReflectliteType.assignableTo) Tryd.func144 (by kernel_rfl) (by kernel_rfl) (by kernel_rfl) (by kernel_rfl) args w
theorem x129 (args : Array Value) (w : World) : (callFunc 110 args).run Tryd.prog w = (((ReflectliteValue.method (ReflectliteValue.valueError "reflectlite.Value.Elem" 0) ReflectliteValue.elem) args : Sem Value).run Tryd.prog w).andThen fun v w' => .ok (.value v) w' :=
  @run_callFunc_extern Tryd.prog 110 _ (ReflectliteValue.method (ReflectliteValue.valueError "reflectlite.Value.Elem" 0) ReflectliteValue.elem) Tryd.func110 (by kernel_rfl) (by kernel_rfl) (by kernel_rfl) (by kernel_rfl) args w
theorem x130 (args : Array Value) (w : World) : (callFunc 111 args).run Tryd.prog w = ((ReflectliteValue.set args : Sem Value).run Tryd.prog w).andThen fun v w' => .ok (.value v) w' :=
  @run_callFunc_extern Tryd.prog 111 _ ReflectliteValue.set Tryd.func111 (by kernel_rfl) (by kernel_rfl) (by kernel_rfl) (by kernel_rfl) args w

end Go.Proofs.YtljmklohgpaopaaDoor

namespace Go.Proofs.YtljmklohgpaopaaDoor
open Go.RowKit Go.Extern.Stop Go.Stop Go.Extern


set_option maxHeartbeats 4000000 in
set_option maxRecDepth 100000 in
theorem as_P_hit (e : Addr) (g : Nat) (old : Value) (w : World) (hG : GE w) (hb : Blk w g 138 [old]) :
    Calls Tryd.prog 75 #[.iface 138 (.pointer (some e)), .iface 140 (.pointer (some ⟨g, 0, none⟩))] w fun ev w' => ev = .returned (.bool true) ∧ w.grownBy w' (some g) ∧ Blk w' g 138 [.pointer (some e)] := by
  have hlt : g < w.heap.size := hb.lt
  have h0 : w.cell? ⟨0, 0, none⟩ = some (.iface 185 (.agg #[.pointer (some ⟨1, 70, none⟩)])) := hG
  have hz := World.block_lt_of_cell? _ _ h0
  have y1 := x123
  have y2 := x124
  have y3 := x125
  have y4 := x146
  have y5 := x162
  have y6 := x163
  have y7 := x99
  have y8 := x160
  have y9 := x129
  have y10 := x130
  have f1 := Tryd.valueOfPP
  have f2 := Tryd.typePP
  have f3 := Tryd.methodKind
  have f4 := Tryd.kindPP
  have f5 := Tryd.kindP
  have f6 := Tryd.methodElem
  have f7 := Tryd.methodImplements
  have f8 := Tryd.methodAssignableTo
  have f9 := Tryd.elemPP
  have f10 := Tryd.implementsP
  have f11 := Tryd.typeOfP
  have f12 := Tryd.assignablePP
  have f13 := Tryd.valueOfP
  have f14 := Tryd.isNilPP
  have el := Tryd.elemVPP ⟨w.heap.size, 0, none⟩ ⟨g, 0, none⟩ (((w.alloc (.cells #[.pointer (some ⟨g, 0, none⟩)] 140)).alloc (.cells #[.pointer (some ⟨1, 140, none⟩), .pointer (some ⟨w.heap.size, 0, none⟩), .int .u64 150] 177)).alloc (.cells #[.pointer (some ⟨1, 140, none⟩), .pointer (some ⟨w.heap.size, 0, none⟩), .int .u64 150] 177))
    (by rw [World.cell?_alloc_lt _ _ ⟨w.heap.size, 0, none⟩ (by simp; omega), World.cell?_alloc_lt _ _ ⟨w.heap.size, 0, none⟩ (by simp)]; simp)
  have st := Tryd.setP ⟨g, 0, none⟩ ⟨w.heap.size + 1 + 1 + 1, 0, none⟩ e old ((((w.alloc (.cells #[.pointer (some ⟨g, 0, none⟩)] 140)).alloc (.cells #[.pointer (some ⟨1, 140, none⟩), .pointer (some ⟨w.heap.size, 0, none⟩), .int .u64 150] 177)).alloc (.cells #[.pointer (some ⟨1, 140, none⟩), .pointer (some ⟨w.heap.size, 0, none⟩), .int .u64 150] 177)).alloc (.cells #[.pointer (some e)] 138))
    (by rw [World.cell?_alloc_at _ _ _ _ (by simp)]; rfl)
    (by rw [((((hb.alloc _).alloc _).alloc _).alloc _).cell 0]; rfl)
    (((((hb.alloc _).alloc _).alloc _).alloc _).frozen 0)
  have hc := hb.cell 0
  have hf := hb.frozen 0
  simp only [List.getElem?_cons_zero] at hc
  go_enter Tryd.func75, Tryd.ntmps75
  go_wp2
  refine wp_loop_rounds 1 ?_
  rw [rounds_succ]
  go_wp2
  go_ret
  exact ⟨rfl, only_setCell (only_alloc (only_alloc (only_alloc (only_alloc (World.grownBy.refl w _) _) _) _) _) (.inl rfl) _, ((((hb.alloc _).alloc _).alloc _).alloc _).set_ 0 _⟩


set_option maxHeartbeats 4000000 in
set_option maxRecDepth 100000 in
theorem as_K_hit (k : Int) (g : Nat) (old : Value) (w : World) (hG : GE w) (hb : Blk w g 25 [old]) :
    Calls Tryd.prog 75 #[.iface 25 (.int .i64 k), .iface 143 (.pointer (some ⟨g, 0, none⟩))] w fun ev w' => ev = .returned (.bool true) ∧ w.grownBy w' (some g) ∧ Blk w' g 25 [.int .i64 k] := by
  have hlt : g < w.heap.size := hb.lt
  have h0 : w.cell? ⟨0, 0, none⟩ = some (.iface 185 (.agg #[.pointer (some ⟨1, 70, none⟩)])) := hG
  have hz := World.block_lt_of_cell? _ _ h0
  have y1 := x123
  have y2 := x124
  have y3 := x125
  have y4 := x146
  have y5 := x162
  have y6 := x163
  have y7 := x99
  have y8 := x160
  have y9 := x129
  have y10 := x130
  have f1 := Tryd.valueOfPK
  have f2 := Tryd.typePK
  have f3 := Tryd.methodKind
  have f4 := Tryd.kindPK
  have f5 := Tryd.kindK
  have f6 := Tryd.methodElem
  have f7 := Tryd.methodImplements
  have f8 := Tryd.methodAssignableTo
  have f9 := Tryd.elemPK
  have f10 := Tryd.implementsK
  have f11 := Tryd.typeOfK
  have f12 := Tryd.assignableKK
  have f13 := Tryd.valueOfK
  have f14 := Tryd.isNilPK
  have el := Tryd.elemVPK ⟨w.heap.size, 0, none⟩ ⟨g, 0, none⟩ (((w.alloc (.cells #[.pointer (some ⟨g, 0, none⟩)] 143)).alloc (.cells #[.pointer (some ⟨1, 143, none⟩), .pointer (some ⟨w.heap.size, 0, none⟩), .int .u64 150] 177)).alloc (.cells #[.pointer (some ⟨1, 143, none⟩), .pointer (some ⟨w.heap.size, 0, none⟩), .int .u64 150] 177))
    (by rw [World.cell?_alloc_lt _ _ ⟨w.heap.size, 0, none⟩ (by simp; omega), World.cell?_alloc_lt _ _ ⟨w.heap.size, 0, none⟩ (by simp)]; simp)
  have st := Tryd.setK ⟨g, 0, none⟩ ⟨w.heap.size + 1 + 1 + 1, 0, none⟩ k old ((((w.alloc (.cells #[.pointer (some ⟨g, 0, none⟩)] 143)).alloc (.cells #[.pointer (some ⟨1, 143, none⟩), .pointer (some ⟨w.heap.size, 0, none⟩), .int .u64 150] 177)).alloc (.cells #[.pointer (some ⟨1, 143, none⟩), .pointer (some ⟨w.heap.size, 0, none⟩), .int .u64 150] 177)).alloc (.cells #[.int .i64 k] 25))
    (by rw [World.cell?_alloc_at _ _ _ _ (by simp)]; rfl)
    (by rw [((((hb.alloc _).alloc _).alloc _).alloc _).cell 0]; rfl)
    (((((hb.alloc _).alloc _).alloc _).alloc _).frozen 0)
  have hc := hb.cell 0
  have hf := hb.frozen 0
  simp only [List.getElem?_cons_zero] at hc
  go_enter Tryd.func75, Tryd.ntmps75
  go_wp2
  refine wp_loop_rounds 1 ?_
  rw [rounds_succ]
  go_wp2
  go_ret
  exact ⟨rfl, only_setCell (only_alloc (only_alloc (only_alloc (only_alloc (World.grownBy.refl w _) _) _) _) _) (.inl rfl) _, ((((hb.alloc _).alloc _).alloc _).alloc _).set_ 0 _⟩


set_option maxHeartbeats 4000000 in
set_option maxRecDepth 100000 in
theorem as_K_miss (k : Int) (g : Nat) (old : Value) (w : World) (hG : GE w) (hb : Blk w g 138 [old]) :
    Calls Tryd.prog 75 #[.iface 25 (.int .i64 k), .iface 140 (.pointer (some ⟨g, 0, none⟩))] w fun ev w' => ev = .returned (.bool false) ∧ Below w.heap.size w w' := by
  have hlt : g < w.heap.size := hb.lt
  have h0 : w.cell? ⟨0, 0, none⟩ = some (.iface 185 (.agg #[.pointer (some ⟨1, 70, none⟩)])) := hG
  have hz := World.block_lt_of_cell? _ _ h0
  have y1 := x123
  have y2 := x124
  have y3 := x125
  have y4 := x146
  have y5 := x162
  have y6 := x163
  have y7 := x99
  have y8 := x160
  have y9 := x129
  have y10 := x130
  have f1 := Tryd.valueOfPP
  have f2 := Tryd.typePP
  have f3 := Tryd.methodKind
  have f4 := Tryd.kindPP
  have f5 := Tryd.kindP
  have f6 := Tryd.methodElem
  have f7 := Tryd.methodImplements
  have f8 := Tryd.methodAssignableTo
  have f9 := Tryd.elemPP
  have f10 := Tryd.implementsP
  have f11 := Tryd.typeOfK
  have f12 := Tryd.assignableKP
  have n1 := Tryd.noAsK
  have n2 := Tryd.noUnwrapK
  have n3 := Tryd.noUnwrapsK
  have f14 := Tryd.isNilPP
  have hc := hb.cell 0
  have hf := hb.frozen 0
  simp only [List.getElem?_cons_zero] at hc
  go_enter Tryd.func75, Tryd.ntmps75
  go_wp2
  refine wp_loop_rounds 1 ?_
  rw [rounds_succ]
  go_wp2
  go_ret
  exact ⟨rfl, (((Below.refl _ _).alloc (Nat.le_refl _) _).alloc (by simp) _).alloc (by simp; omega) _⟩

end Go.Proofs.YtljmklohgpaopaaDoor

namespace Go.Proofs.YtljmklohgpaopaaDoor
open Go.RowKit Go.Extern.Stop Go.Stop Go.Extern

section
variable {P : Program} (w : World)
theorem run_equalIn_iface_int (d : Nat) {ti tn : TypeId} {ms : Array (String × TypeId)} {i : TypeInfo} {k : IntKind} (a b : Int)
    (hi : P.underlying ti = some (.interface ms)) (hn : P.underlying tn = some (.int k)) (hinfo : P.info? tn = some i) (hcomp : i.comparable = true) :
    (Op.equalIn (d + 2) ti (.iface tn (.int k a)) (.iface tn (.int k b))).run P w = .ok (a == b) w := by
  simp [Op.equalIn, run_underlying hi, run_underlying hn, typeInfo, hinfo, hcomp]
/-- 'x == y', both interface values of one integer type: as the numbers are. -/
theorem run_eql_iface_int {ti tn : TypeId} {ms : Array (String × TypeId)} {i : TypeInfo} {k : IntKind} (a b : Int)
    (hi : P.underlying ti = some (.interface ms)) (hn : P.underlying tn = some (.int k)) (hinfo : P.info? tn = some i) (hcomp : i.comparable = true) :
    (binOp .eql ti (.iface tn (.int k a)) (.iface tn (.int k b))).run P w = .ok (.bool (a == b)) w := by
  simp only [binOp]
  simp [Op.equal, Op.maxDepth, run_equalIn_iface_int w 9998 a b hi hn hinfo hcomp]
end

def cmpEntry : Array Value → Sem Value := ReflectliteType.method fun t => do Rtype.noPackHeld "Comparable" t; pure (.bool (← typeInfo t).comparable)
theorem Tryd.isComparableK (w : World) : (cmpEntry #[.agg #[.pointer (some ⟨1, 25, none⟩)]]).run Tryd.prog w = .ok (.bool true) w := by kernel_rfl
theorem Tryd.methodComparable (v : Value) (w : World) : (Go.method 332 185 v "Comparable").run Tryd.prog w = .ok (145, v) w := by kernel_rfl
theorem Tryd.compK : (Tryd.prog.info? 25).map (·.comparable) = some true := by kernel_rfl
theorem Tryd.noIsK (v : Value) (xT : TypeId) (w : World) : (Instr.typeAssert (.iface 25 v) xT 187 true).run Tryd.prog w = .ok (.tuple #[.nilIface, .bool false]) w := run_typeAssert_lacksB Tryd.underlying187 (by kernel_rfl) (by kernel_rfl) v xT w
theorem Tryd.noIsP (v : Value) (xT : TypeId) (w : World) : (Instr.typeAssert (.iface 138 v) xT 187 true).run Tryd.prog w = .ok (.tuple #[.nilIface, .bool false]) w := run_typeAssert_lacksB Tryd.underlying187 (by kernel_rfl) (by kernel_rfl) v xT w
theorem Tryd.hasUnwrapP (v : Value) (xT : TypeId) (w : World) : (Instr.typeAssert (.iface 138 v) xT 190 true).run Tryd.prog w = .ok (.tuple #[.iface 138 v, .bool true]) w := run_typeAssert_hasB Tryd.underlying190 (by kernel_rfl) v xT w
theorem Tryd.methodUnwrapP (a : Addr) (w : World) : (Go.method 332 138 (.pointer (some a)) "Unwrap").run Tryd.prog w = .ok (136, .pointer (some a)) w := by kernel_rfl
theorem x161 (args : Array Value) (w : World) : (callFunc 145 args).run Tryd.prog w = ((cmpEntry args).run Tryd.prog w).andThen fun v w' => .ok (.value v) w' :=
  @run_callFunc_extern Tryd.prog 145 _ cmpEntry Tryd.func145 (by kernel_rfl) (by kernel_rfl) (by kernel_rfl) (by kernel_rfl) args w

/-- errors.Is(nil, kind). -/
theorem is_nil (i : Int) (w : World) :
    Calls Tryd.prog 53 #[.nilIface, .iface 25 (.int .i64 i)] w fun e w' => e = .returned (.bool false) ∧ w = w' := by
  have hn := run_eql_iface_nil_left (P := Tryd.prog) w 25 (.int .i64 i) Tryd.underlying70
  go_enter Tryd.func53, Tryd.ntmps53
  go_wp2
  go_ret
  exact ⟨rfl, rfl⟩

set_option maxHeartbeats 1000000 in
set_option maxRecDepth 100000 in
/-- errors.Is(kind, kind). -/
theorem is_kind (k i : Int) (w : World) :
    Calls Tryd.prog 53 #[.iface 25 (.int .i64 k), .iface 25 (.int .i64 i)] w fun e w' => e = .returned (.bool (k == i)) ∧ w = w' := by
  obtain ⟨ti, hi, hcmp⟩ := Option.map_eq_some_iff.1 Tryd.compK
  have y1 := x99
  have y2 := x161
  have f1 := Tryd.typeOfK
  have f2 := Tryd.isComparableK
  have f3 := Tryd.methodComparable
  have n1 := Tryd.noIsK
  have n2 := Tryd.noUnwrapK
  have n3 := Tryd.noUnwrapsK
  have heq := run_eql_iface_int (P := Tryd.prog) w k i Tryd.underlying70 Tryd.underlying25 hi hcmp
  cases hki : (k == i)
  all_goals
    rw [hki] at heq
    clear hki hi hcmp
    go_enter Tryd.func53, Tryd.ntmps53
    go_wp2
    refine wp_loop_rounds 1 ?_
    rw [rounds_succ]
    go_wp2
    go_ret
    exact ⟨rfl, rfl⟩

set_option maxHeartbeats 2000000 in
set_option maxRecDepth 100000 in
/-- errors.Is(table error, kind). -/
theorem is_table (g : Nat) (t : Value) (k i : Int) (w : World) (hb : Blk w g 142 [t, .int .i64 k]) :
    Calls Tryd.prog 53 #[.iface 138 (.pointer (some ⟨g, 0, none⟩)), .iface 25 (.int .i64 i)] w fun e w' => e = .returned (.bool (k == i)) ∧ w = w' := by
  obtain ⟨ti, hi, hcmp⟩ := Option.map_eq_some_iff.1 Tryd.compK
  have y1 := x99
  have y2 := x161
  have f1 := Tryd.typeOfK
  have f2 := Tryd.isComparableK
  have f3 := Tryd.methodComparable
  have n1 := Tryd.noIsK
  have n2 := Tryd.noUnwrapK
  have n3 := Tryd.noUnwrapsK
  have n4 := Tryd.noIsP
  have n5 := Tryd.hasUnwrapP
  have n6 := Tryd.methodUnwrapP
  have hc := hb.cell 1
  simp only [List.getElem?_cons_succ, List.getElem?_cons_zero] at hc
  have heq := run_eql_iface_int (P := Tryd.prog) w k i Tryd.underlying70 Tryd.underlying25 hi hcmp
  have hty := run_eql_iface_types (P := Tryd.prog) 138 25 (.pointer (some ⟨g, 0, none⟩)) (.int .i64 i) Tryd.underlying70 (by decide) w
  cases hki : (k == i)
  all_goals
    rw [hki] at heq
    clear hki hi hcmp
    go_enter Tryd.func53, Tryd.ntmps53
    go_wp2
    refine wp_loop_rounds 2 ?_
    rw [rounds_succ]
    go_wp2
    rw [rounds_succ]
    go_wp2
    go_ret
    exact ⟨rfl, rfl⟩
end Go.Proofs.YtljmklohgpaopaaDoor

namespace Go.Proofs.YtljmklohgpaopaaDoor
open Go.RowKit Go.Extern.Stop Go.Stop Go.Extern

/-- The value is an error of this kind (0: none), of this table. -/
def ErrV (w : World) (v : Value) (k : Nat) (t : ByteArray) : Prop :=
  (v = .nilIface ∧ k = 0 ∧ t = ⟨#[]⟩) ∨ (v = .iface 25 (.int .i64 (k : Int)) ∧ t = ⟨#[]⟩) ∨
    ∃ g, v = .iface 138 (.pointer (some ⟨g, 0, none⟩)) ∧ Blk w g 142 [.string t, .int .i64 (k : Int)]
theorem ErrV.nil (w : World) : ErrV w .nilIface 0 ⟨#[]⟩ := .inl ⟨rfl, rfl, rfl⟩
theorem ErrV.kind (w : World) (k : Nat) : ErrV w (.iface 25 (.int .i64 (k : Int))) k ⟨#[]⟩ := .inr (.inl ⟨rfl, rfl⟩)
theorem ErrV.below {w w' : World} {v : Value} {k : Nat} {t : ByteArray} (h : ErrV w v k t) (hb : Below w.heap.size w w') : ErrV w' v k t := by
  rcases h with h | h | ⟨g, h, hg⟩
  · exact .inl h
  · exact .inr (.inl h)
  · exact .inr (.inr ⟨g, h, hg.below hb hg.lt⟩)
theorem GE.below {w w' : World} (h : GE w) (hb : Below w.heap.size w w') : GE w' := by
  have hz := World.block_lt_of_cell? _ _ h
  exact (hb.cell (p := ⟨0, 0, none⟩) hz).trans h
theorem GE.lt {w : World} (h : GE w) : 0 < w.heap.size := World.block_lt_of_cell? _ _ h

theorem told0_nil (w : World) (hG : GE w) :
    Calls Tryd.prog 52 #[.nilIface] w fun e w' => e = .returned (.tuple #[.int .i64 0, .string ⟨#[]⟩]) ∧ Below w.heap.size w w' := by
  go_enter Tryd.func52, Tryd.ntmps52
  go_wp2_with fail
  refine (as_nil _ _).mono ?_
  rintro e w' ⟨rfl, rfl⟩
  go_wp2_with fail
  refine (as_nil _ _).mono ?_
  rintro e w' ⟨rfl, rfl⟩
  go_wp2_with fail
  go_ret2
  exact ⟨rfl, ((Below.refl _ _).alloc (Nat.le_refl _) _).alloc (by simp) _⟩

theorem GE.alloc {w : World} (h : GE w) (o : Obj) : GE (w.alloc o) := h.below ((Below.refl _ _).alloc (Nat.le_refl _) _)

set_option maxHeartbeats 1000000 in
theorem told0_kind (k : Int) (w : World) (hG : GE w) :
    Calls Tryd.prog 52 #[.iface 25 (.int .i64 k)] w fun e w' => e = .returned (.tuple #[.int .i64 k, .string ⟨#[]⟩]) ∧ Below w.heap.size w w' := by
  go_enter Tryd.func52, Tryd.ntmps52
  go_wp2_with fail
  refine (as_K_miss k w.heap.size _ _ (hG.alloc _) (Blk.new w _ _)).mono ?_
  rintro e w1 ⟨rfl, hb1⟩
  have hs1 := hb1.size
  simp only [World.size_alloc] at hs1
  go_wp2_with fail
  refine (as_K_hit k w1.heap.size _ _ (((hG.alloc _).below hb1).alloc _) (Blk.new w1 _ _)).mono ?_
  rintro e w2 ⟨rfl, hon, hblk⟩
  have hc := hblk.cell 0
  simp only [List.getElem?_cons_zero] at hc
  go_wp2_with fail
  go_ret2
  have h1 : Below w.heap.size w w1 := ((Below.refl _ _).alloc (Nat.le_refl _) _).trans (hb1.mono (by simp))
  exact ⟨rfl, (h1.alloc h1.size _).trans (below_of_only hon h1.size (by have := h1.size; simp; omega))⟩

set_option maxHeartbeats 1000000 in
theorem told0_table (g : Nat) (t : ByteArray) (k : Int) (w : World) (hG : GE w) (hb : Blk w g 142 [.string t, .int .i64 k]) :
    Calls Tryd.prog 52 #[.iface 138 (.pointer (some ⟨g, 0, none⟩))] w fun e w' => e = .returned (.tuple #[.int .i64 k, .string t]) ∧ Below w.heap.size w w' := by
  go_enter Tryd.func52, Tryd.ntmps52
  go_wp2_with fail
  refine (as_P_hit ⟨g, 0, none⟩ w.heap.size _ _ (hG.alloc _) (Blk.new w _ _)).mono ?_
  rintro e w2 ⟨rfl, hon, hblk⟩
  have hc := hblk.cell 0
  simp only [List.getElem?_cons_zero] at hc
  have hb2 := (hb.alloc (.cells #[.pointer none] 138)).grown hon (by have := hb.lt; simp; omega)
  have hc0 := hb2.cell 0
  have hc1 := hb2.cell 1
  simp only [List.getElem?_cons_succ, List.getElem?_cons_zero] at hc0 hc1
  have hbel : Below w.heap.size w w2 := ((Below.refl _ _).alloc (Nat.le_refl _) _).trans (below_of_only hon (Nat.le_refl _) (by simp))
  have HB := Lib.hid hbel
  clear hbel hon hblk hb2 hb
  go_wp2_with fail
  go_quiet (fail)
  go_wp2_with fail
  go_ret2
  exact ⟨rfl, below_drewN HB.out _⟩

theorem told0_any (v : Value) (k : Nat) (t : ByteArray) (w : World) (hG : GE w) (h : ErrV w v k t) :
    Calls Tryd.prog 52 #[v] w fun e w' => e = .returned (.tuple #[.int .i64 (k : Int), .string t]) ∧ Below w.heap.size w w' := by
  rcases h with ⟨rfl, rfl, rfl⟩ | ⟨rfl, rfl⟩ | ⟨g, rfl, hb⟩
  · exact told0_nil w hG
  · exact told0_kind k w hG
  · exact told0_table g t k w hG hb
theorem is_any (v : Value) (k : Nat) (t : ByteArray) (i : Int) (w : World) (h : ErrV w v k t) (hi : 1 ≤ i) :
    Calls Tryd.prog 53 #[v, .iface 25 (.int .i64 i)] w fun e w' => e = .returned (.bool ((k : Int) == i)) ∧ w = w' := by
  rcases h with ⟨rfl, rfl, rfl⟩ | ⟨rfl, rfl⟩ | ⟨g, rfl, hb⟩
  · refine (is_nil i w).mono fun e w' ⟨he, hw⟩ => ⟨?_, hw⟩
    rw [he]
    have : (((0 : Nat) : Int) == i) = false := by simp; omega
    rw [this]
  · exact is_kind k i w
  · exact is_table g _ k i w hb

set_option maxHeartbeats 1000000 in
theorem told_any (v : Value) (k : Nat) (t : ByteArray) (w : World) (hG : GE w) (h : ErrV w v k t) (hk : k ≤ 21) :
    Calls Tryd.prog 24 #[v] w fun e w' => e = .returned (.agg #[.int .i64 (k : Int), .string t, .bool true]) ∧ Below w.heap.size w w' := by
  go_enter Tryd.func24, Tryd.ntmps24
  go_wp2_with fail
  refine (told0_any v k t _ (hG.alloc _) (h.below ((Below.refl _ _).alloc (Nat.le_refl _) _))).mono ?_
  rintro e w1 ⟨rfl, hb1⟩
  have hs1 := hb1.size
  simp only [World.size_alloc] at hs1
  have h1 : Below w.heap.size w w1 := ((Below.refl _ _).alloc (Nat.le_refl _) _).trans (hb1.mono (by simp))
  have hE := h.below (h1.trans ((Below.refl _ _).alloc h1.size (.cells #[.int .i64 (k : Int), .string t, .bool true] 27)))
  have hblk2 : Blk w1 w.heap.size 27 [.int .i64 0, .string ⟨#[]⟩, .bool false] := (Blk.new w 27 [.int .i64 0, .string ⟨#[]⟩, .bool false]).below hb1 (by simp)
  have H1 := Lib.hid h1
  have HB2 := Lib.hid hblk2
  have HE := Lib.hid hE
  clear h1 hb1 hblk2 hE h hG
  go_wp2_with fail
  go_loop [6] (fun i => ∃ n : Nat, 1 ≤ n ∧ n ≤ 22 ∧ i = .int .i64 (n : Int)) (fun i => 22 - (intOf i).toNat)
  case atStart => exact ⟨1, by omega, by omega, rfl⟩
  case round =>
    obtain ⟨n, hn1, hn2, rfl⟩ := hrel
    by_cases hlt : n ≤ 21
    · cases hkn : (((k : Nat) : Int) == (n : Int))
      all_goals
        have hnk : ((n : Int) == ((k : Nat) : Int)) = _ := Bool.beq_comm.trans hkn
        have HKN := Lib.hid hkn
        clear hkn
        go_wp2_with fail
        refine (is_any v k t n _ HE.out (by omega)).mono ?_
        rintro e w' ⟨rfl, rfl⟩
        rw [HKN.out]
        go_wp2_with fail
        go_round
        case rel => exact ⟨n + 1, by omega, by omega, by go_num⟩
        case measure => simp [intOf]; omega
    · have hB3 := HB2.out.alloc (.cells #[.int .i64 (k : Int), .string t, .bool true] 27)
      have c0 := hB3.cell 0
      have c1 := hB3.cell 1
      have c2 := hB3.cell 2
      have f0 := hB3.frozen 0
      have f1 := hB3.frozen 1
      have f2 := hB3.frozen 2
      simp only [List.getElem?_cons_succ, List.getElem?_cons_zero] at c0 c1 c2
      have hW := ((hB3.set_ 0 (.int .i64 (k : Int))).set_ 1 (.string t)).set_ 2 (.bool true)
      have HW := Lib.hid hW
      clear hB3 hW
      go_wp2_with fail
      have d0 := HW.out.cell 0
      have d1 := HW.out.cell 1
      have d2 := HW.out.cell 2
      simp only [List.set_cons_zero, List.set_cons_succ, List.getElem?_cons_succ, List.getElem?_cons_zero] at d0 d1 d2
      refine bodyPost_ret (v := .agg #[.int .i64 (k : Int), .string t, .bool true]) (by simp [results, Tryd.results24, go_sem, d0, d1, d2]) rfl ⟨rfl, ?_⟩
      exact (((H1.out.alloc H1.out.size _).setCell (Nat.le_refl _) _).setCell (Nat.le_refl _) _).setCell (Nat.le_refl _) _
end Go.Proofs.YtljmklohgpaopaaDoor

namespace Go.Proofs.YtljmklohgpaopaaDoor
open Go.RowKit

def errA (k : Int) (t : ByteArray) : Value := .agg #[.int .i64 k, .string t, .bool true]

/-- '==' between two errors in plain data. -/
theorem eql_err (k k' : Int) (t t' : ByteArray) (b b' : Bool) (w : World) :
    (binOp .eql 27 (.agg #[.int .i64 k, .string t, .bool b]) (.agg #[.int .i64 k', .string t', .bool b'])).run Tryd.prog w = .ok (.bool (k == k' && (t.toList == t'.toList && b == b'))) w := by
  have he := run_equalIn_struct (P := Tryd.prog) w 9999 27 #[.int .i64 k, .string t, .bool b] #[.int .i64 k', .string t', .bool b'] (by kernel_rfl) (by kernel_rfl)
  simp only [binOp]
  simp only [Op.equal, Op.maxDepth, Sem.run_bind, he]
  simp [go_sem, part]
  by_cases h1 : k = k' <;> by_cases h2 : t.toList = t'.toList <;> by_cases h3 : b = b' <;> simp [h1, h2, h3]

end Go.Proofs.YtljmklohgpaopaaDoor

namespace Go.Proofs.YtljmklohgpaopaaDoor
open Go.RowKit


theorem is_eq (k k' : Int) (t t' : ByteArray) (w : World) :
    Calls Tryd.prog 30 #[errA k t, .int .i64 k', .string t'] w fun e w' => e = .returned (.bool (k == k' && t.toList == t'.toList)) ∧ Below w.heap.size w w' := by
  have q := eql_err
  unfold errA
  go_enter Tryd.func30, Tryd.ntmps30
  go_wp2_with fail
  go_ret
  refine ⟨?_, (Below.refl _ _).alloc (Nat.le_refl _) _⟩
  simp

theorem bare_any (k k' : Int) (t : ByteArray) (w : World) :
    Calls Tryd.prog 12 #[errA k t, .int .i64 k'] w fun e w' => e = .returned (.bool (k == k' && t.toList.isEmpty)) ∧ Below w.heap.size w w' := by
  unfold errA
  go_enter Tryd.func12, Tryd.ntmps12
  go_wp2_with fail
  refine (is_eq k k' t ⟨#[]⟩ _).mono ?_
  rintro e w1 ⟨rfl, hb1⟩
  go_wp2_with fail
  go_ret
  exact ⟨rfl, ((Below.refl _ _).alloc (Nat.le_refl _) _).trans (hb1.mono (by simp))⟩

/-- copy(row, s) out of a string, as much as fits. -/
theorem run_copy_cut {P : Program} (w : World) (dT sT ty elem : TypeId) (g o dLen dCap m : Nat) (s : ByteArray) (cur : List Value) (t : TypeId)
    (hu : P.underlying dT = some (.slice elem)) (hs : (P.info? elem).map (·.size) = some 1) (hg : Blk w g t cur) (hm : Nat.min s.size dLen = m) (hfit : o + m ≤ cur.length) :
    (Builtin.copy_ #[dT, sT] ty #[.slice (some ⟨g, o, none⟩) dLen dCap, .string s]).run P w =
      .ok (goInt m) (w.setRow g (cur.take o ++ bv (s.data.toList.take m) ++ cur.drop (o + m)).toArray) := by
  have hms : m ≤ s.size := by rw [← hm]; exact Nat.min_le_left _ _
  have hl : (bv (s.data.toList.take m)).length = m := by
    rw [bv_length, List.length_take]
    exact Nat.min_eq_left hms
  have hst := run_storeCells_at P g o t (bv (s.data.toList.take m)) 0 cur.toArray w hg (by simp only [List.size_toArray]; rw [hl]; exact hfit) (bv_one _)
  cases hq : P.info? elem with
  | none => simp [hq] at hs
  | some i =>
    have hi : i.size = 1 := by simpa [hq] using hs
    have hb : List.take m (List.map (fun b : UInt8 => Value.int .u8 (b.toNat : Int)) s.data.toList) = bv (s.data.toList.take m) := by
      rw [bv, List.map_take]
    simp only [Nat.add_zero, hl] at hst
    simp [Builtin.copy_, run_underlying hu, Builtin.lenOf, Builtin.firstCells, sizeOf, typeInfo, hq, hm]
    rw [hb, hst]
    simp [Result.andThen]

set_option maxHeartbeats 1000000 in
theorem hash_any (s : ByteArray) (w : World) :
    Calls Tryd.prog 26 #[.string s] w fun e w' => e = .returned (hashVal (Pl.hashOf s.data.toList)) ∧ Below w.heap.size w w' := by
  have hs : s.data.toList.length = s.size := rfl
  have hcp := run_copy_cut (P := Tryd.prog) ((w.alloc (.cells #[.int .u8 0, .int .u8 0, .int .u8 0, .int .u8 0] 73)).alloc (.cells #[.int .u8 0, .int .u8 0, .int .u8 0, .int .u8 0] 73)) 23 9 3 5 (w.heap.size + 1) 0 4 4 (Nat.min s.size 4) s [.int .u8 0, .int .u8 0, .int .u8 0, .int .u8 0] 73 Tryd.underlying23 Tryd.sizeByte (Blk.newAt _ _ _ _ (by simp)) rfl (by simp; exact Nat.min_le_right _ _)
  have hh := hc_hashOf s.data.toList
  rw [hs] at hh
  rw [List.take_zero, List.nil_append, hh] at hcp
  obtain ⟨h, hhh⟩ : ∃ h, Pl.hashOf s.data.toList = h := ⟨_, rfl⟩
  rw [hhh] at hcp ⊢
  have hr : ((w.alloc (.cells #[.int .u8 0, .int .u8 0, .int .u8 0, .int .u8 0] 73)).alloc (.cells #[.int .u8 0, .int .u8 0, .int .u8 0, .int .u8 0] 73)).setRow (w.heap.size + 1) (hc h).toArray = (w.alloc (.cells #[.int .u8 0, .int .u8 0, .int .u8 0, .int .u8 0] 73)).alloc (.cells (hc h).toArray 73) := by
    have := setRow_alloc (w.alloc (.cells #[.int .u8 0, .int .u8 0, .int .u8 0, .int .u8 0] 73)) #[.int .u8 0, .int .u8 0, .int .u8 0, .int .u8 0] (hc h).toArray 73
    simpa using this
  rw [hr] at hcp
  unfold hc at hcp
  clear hh hs hhh hr
  go_enter Tryd.func26, Tryd.ntmps26
  go_wp2_with fail
  exact bodyPost_ret (v := hashVal h) (results_hash rfl rfl ((Blk.new w 73 (hc h)).alloc _)) rfl ⟨rfl, ((Below.refl _ _).alloc (Nat.le_refl _) _).alloc (by simp) _⟩
end Go.Proofs.YtljmklohgpaopaaDoor

namespace Go.Proofs.YtljmklohgpaopaaDoor
open Go.RowKit

theorem pstr_nil : pstr [] = ⟨#[]⟩ := rfl
/-- The result in plain data stands in a cell of its own. -/
theorem results_err2 {fn : Func} {s t : Tmp} {tmps : Array Value} {w : World} {g : Nat} {v : Value} {k : Int} {u : ByteArray} (h : fn.results = #[.tmp s, .cell t 27]) (hv : tmps.getD s undef = v) (ht : tmps.getD t undef = .pointer (some ⟨g, 0, none⟩)) (hB : Blk w g 27 [.int .i64 k, .string u, .bool true]) :
    (results fn tmps).run Tryd.prog w = .ok (.tuple #[v, errA k u]) w := by
  have c0 := hB.cell 0
  have c1 := hB.cell 1
  have c2 := hB.cell 2
  simp only [List.getElem?_cons_succ, List.getElem?_cons_zero] at c0 c1 c2
  simp only [Array.getD_eq_getD_getElem?] at ht hv
  simp [results, h, ht, hv, go_sem, c0, c1, c2, errA, asAddr]

theorem facts3 {w : World} {g : Nat} {t : TypeId} {a0 a1 a2 : Value} (h : Blk w g t [a0, a1, a2]) :
    w.cell? ⟨g, 0, none⟩ = some a0 ∧ w.cell? ⟨g, 1, none⟩ = some a1 ∧ w.cell? ⟨g, 2, none⟩ = some a2 ∧
    w.frozen? ⟨g, 0, none⟩ = false ∧ w.frozen? ⟨g, 1, none⟩ = false ∧ w.frozen? ⟨g, 2, none⟩ = false :=
  ⟨h.cell 0, h.cell 1, h.cell 2, h.frozen 0, h.frozen 1, h.frozen 2⟩
theorem Blk.set3 {w : World} {g : Nat} {t : TypeId} {a0 a1 a2 : Value} (h : Blk w g t [a0, a1, a2]) (x0 x1 x2 : Value) :
    Blk (((w.setCell ⟨g, 0, none⟩ x0).setCell ⟨g, 1, none⟩ x1).setCell ⟨g, 2, none⟩ x2) g t [x0, x1, x2] :=
  ((h.set_ 0 x0).set_ 1 x1).set_ 2 x2
theorem below_set3 {B : Nat} {a w : World} (h : Below B a w) {g : Nat} (hg : B ≤ g) (x0 x1 x2 : Value) :
    Below B a (((w.setCell ⟨g, 0, none⟩ x0).setCell ⟨g, 1, none⟩ x1).setCell ⟨g, 2, none⟩ x2) :=
  ((h.setCell hg x0).setCell hg x1).setCell hg x2
def err0 : Obj := .cells #[.int .i64 0, .string ⟨#[]⟩, .bool false] 27

/-- The four cells of hash k in a row of hashes. -/
theorem Src.hashAt {w : World} {b off k x : Nat} {ps : List Nat} (h : Src w (some ⟨b, off, none⟩) (hcs ps)) (hk : ps[k]? = some x) :
    w.cell? ⟨b, off + k * 4, none⟩ = some (.int .u8 ((x : Int) / 16777216)) ∧ w.cell? ⟨b, off + k * 4 + 1, none⟩ = some (.int .u8 ((x : Int) / 65536 % 256)) ∧
    w.cell? ⟨b, off + k * 4 + 2, none⟩ = some (.int .u8 ((x : Int) / 256 % 256)) ∧ w.cell? ⟨b, off + k * 4 + 3, none⟩ = some (.int .u8 ((x : Int) % 256)) := by
  have hlt : k < ps.length := by
    rcases Nat.lt_or_ge k ps.length with h' | h'
    · exact h'
    · rw [List.getElem?_eq_none h'] at hk; cases hk
  have hx : ps[k] = x := by rw [List.getElem?_eq_getElem hlt] at hk; exact Option.some.inj hk
  have h2 : Src w (some ⟨b, off, none⟩) (hcs (ps.take k ++ [x])) := by
    have := h.take ((k + 1) * 4)
    rw [← hx, ← List.take_succ_eq_append_getElem hlt]
    have e : hcs ps = hcs (ps.take (k + 1)) ++ hcs (ps.drop (k + 1)) := by rw [← hcs_append, List.take_append_drop]
    rw [e, List.take_left' (by rw [hcs_len, List.length_take, Nat.min_eq_left (by omega)])] at this
    exact this
  exact h2.last4 (by rw [List.length_take]; omega)

theorem hash_room2 {n m : Nat} (h : n + m ≤ 35184372088832) : ∀ old, old < n + m → Builtin.nextslicecap (n + m) old * 4 ≤ 281474976710656 := by
  intro old ho
  have := nextslicecap_le54 ho
  omega

end Go.Proofs.YtljmklohgpaopaaDoor
