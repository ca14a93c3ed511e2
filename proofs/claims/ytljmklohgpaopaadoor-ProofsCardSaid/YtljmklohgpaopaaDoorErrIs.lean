/- errors.Is by its contracts, at what the program hands it: nil, a Kind, a TableError, held against a Kind. -/
import Derived.Test.YtljmklohgpaopaaDoorErrAs2
namespace Go.Proofs.YtljmklohgpaopaaDoor
open Go.RowKit Go.Extern.Stop Go.Stop Go.Extern

section
variable {P : Program} (w : World)
theorem run_equalIn_iface_int (d : Nat) {ti tn : TypeId} {ms : Array (String × TypeId)} {i : TypeInfo} {k : IntKind} (a b : Int)
    (hi : P.underlying ti = some (.interface ms)) (hn : P.underlying tn = some (.int k)) (hinfo : P.info? tn = some i) (hcomp : i.comparable = true) :
    (Op.equalIn (d + 2) ti (.iface tn (.int k a)) (.iface tn (.int k b))).run P w = .ok (a == b) w := by
  simp [Op.equalIn, run_underlying hi, run_underlying hn, typeInfo, hinfo, hcomp]
/-- 'x == y', both interface values of one integer type: as the numbers are. -/
theorem run_eql_iface_int {ti tn : TypeId} {ms : Array (String × TypeId)} {i : TypeInfo} {k : IntKind} (a b : Int)
    (hi : P.underlying ti = some (.interface ms)) (hn : P.underlying tn = some (.int k)) (hinfo : P.info? tn = some i) (hcomp : i.comparable = true) :
    (binOp .eql ti (.iface tn (.int k a)) (.iface tn (.int k b))).run P w = .ok (.bool (a == b)) w := by
  simp only [binOp]
  simp [Op.equal, Op.maxDepth, run_equalIn_iface_int w 9998 a b hi hn hinfo hcomp]
end

def cmpEntry : Array Value → Sem Value := ReflectliteType.method fun t => do Rtype.noPackHeld "Comparable" t; pure (.bool (← typeInfo t).comparable)
theorem Tryd.isComparableK (w : World) : (cmpEntry #[.agg #[.pointer (some ⟨1, 25, none⟩)]]).run Tryd.prog w = .ok (.bool true) w := by kernel_rfl
theorem Tryd.methodComparable (v : Value) (w : World) : (Go.method 332 185 v "Comparable").run Tryd.prog w = .ok (145, v) w := by kernel_rfl
theorem Tryd.compK : (Tryd.prog.info? 25).map (·.comparable) = some true := by kernel_rfl
theorem Tryd.noIsK (v : Value) (xT : TypeId) (w : World) : (Instr.typeAssert (.iface 25 v) xT 187 true).run Tryd.prog w = .ok (.tuple #[.nilIface, .bool false]) w := run_typeAssert_lacksB Tryd.underlying187 (by kernel_rfl) (by kernel_rfl) v xT w
theorem Tryd.noIsP (v : Value) (xT : TypeId) (w : World) : (Instr.typeAssert (.iface 138 v) xT 187 true).run Tryd.prog w = .ok (.tuple #[.nilIface, .bool false]) w := run_typeAssert_lacksB Tryd.underlying187 (by kernel_rfl) (by kernel_rfl) v xT w
theorem Tryd.hasUnwrapP (v : Value) (xT : TypeId) (w : World) : (Instr.typeAssert (.iface 138 v) xT 190 true).run Tryd.prog w = .ok (.tuple #[.iface 138 v, .bool true]) w := run_typeAssert_hasB Tryd.underlying190 (by kernel_rfl) v xT w
theorem Tryd.methodUnwrapP (a : Addr) (w : World) : (Go.method 332 138 (.pointer (some a)) "Unwrap").run Tryd.prog w = .ok (136, .pointer (some a)) w := by kernel_rfl
theorem x161 (args : Array Value) (w : World) : (callFunc 145 args).run Tryd.prog w = ((cmpEntry args).run Tryd.prog w).andThen fun v w' => .ok (.value v) w' :=
  @run_callFunc_extern Tryd.prog 145 _ cmpEntry Tryd.func145 (by kernel_rfl) (by kernel_rfl) (by kernel_rfl) (by kernel_rfl) args w

/-- errors.Is(nil, kind). -/
theorem is_nil (i : Int) (w : World) :
    Calls Tryd.prog 53 #[.nilIface, .iface 25 (.int .i64 i)] w fun e w' => e = .returned (.bool false) ∧ w = w' := by
  have hn := run_eql_iface_nil_left (P := Tryd.prog) w 25 (.int .i64 i) Tryd.underlying70
  go_enter Tryd.func53, Tryd.ntmps53
  go_wp2
  go_ret
  exact ⟨rfl, rfl⟩

set_option maxHeartbeats 1000000 in
set_option maxRecDepth 100000 in
/-- errors.Is(kind, kind). -/
theorem is_kind (k i : Int) (w : World) :
    Calls Tryd.prog 53 #[.iface 25 (.int .i64 k), .iface 25 (.int .i64 i)] w fun e w' => e = .returned (.bool (k == i)) ∧ w = w' := by
  obtain ⟨ti, hi, hcmp⟩ := Option.map_eq_some_iff.1 Tryd.compK
  have y1 := x99
  have y2 := x161
  have f1 := Tryd.typeOfK
  have f2 := Tryd.isComparableK
  have f3 := Tryd.methodComparable
  have n1 := Tryd.noIsK
  have n2 := Tryd.noUnwrapK
  have n3 := Tryd.noUnwrapsK
  have heq := run_eql_iface_int (P := Tryd.prog) w k i Tryd.underlying70 Tryd.underlying25 hi hcmp
  cases hki : (k == i)
  all_goals
    rw [hki] at heq
    clear hki hi hcmp
    go_enter Tryd.func53, Tryd.ntmps53
    go_wp2
    refine wp_loop_rounds 1 ?_
    rw [rounds_succ]
    go_wp2
    go_ret
    exact ⟨rfl, rfl⟩

set_option maxHeartbeats 2000000 in
set_option maxRecDepth 100000 in
/-- errors.Is(table error, kind). -/
theorem is_table (g : Nat) (t : Value) (k i : Int) (w : World) (hb : Blk w g 142 [t, .int .i64 k]) :
    Calls Tryd.prog 53 #[.iface 138 (.pointer (some ⟨g, 0, none⟩)), .iface 25 (.int .i64 i)] w fun e w' => e = .returned (.bool (k == i)) ∧ w = w' := by
  obtain ⟨ti, hi, hcmp⟩ := Option.map_eq_some_iff.1 Tryd.compK
  have y1 := x99
  have y2 := x161
  have f1 := Tryd.typeOfK
  have f2 := Tryd.isComparableK
  have f3 := Tryd.methodComparable
  have n1 := Tryd.noIsK
  have n2 := Tryd.noUnwrapK
  have n3 := Tryd.noUnwrapsK
  have n4 := Tryd.noIsP
  have n5 := Tryd.hasUnwrapP
  have n6 := Tryd.methodUnwrapP
  have hc := hb.cell 1
  simp only [List.getElem?_cons_succ, List.getElem?_cons_zero] at hc
  have heq := run_eql_iface_int (P := Tryd.prog) w k i Tryd.underlying70 Tryd.underlying25 hi hcmp
  have hty := run_eql_iface_types (P := Tryd.prog) 138 25 (.pointer (some ⟨g, 0, none⟩)) (.int .i64 i) Tryd.underlying70 (by decide) w
  cases hki : (k == i)
  all_goals
    rw [hki] at heq
    clear hki hi hcmp
    go_enter Tryd.func53, Tryd.ntmps53
    go_wp2
    refine wp_loop_rounds 2 ?_
    rw [rounds_succ]
    go_wp2
    rw [rounds_succ]
    go_wp2
    go_ret
    exact ⟨rfl, rfl⟩
end Go.Proofs.YtljmklohgpaopaaDoor
