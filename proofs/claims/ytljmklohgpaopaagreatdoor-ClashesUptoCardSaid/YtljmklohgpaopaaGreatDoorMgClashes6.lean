/- errors.Is by its contracts, at what the program hands it: nil, a Kind, a TableError, held against a Kind. api.Told and plain's told by their contracts: nil, a Kind, a table's error. The law Names walked: it returns true. The walks of the harness's is and bare, of plain's hash and Root. The walks of plain's Path and Climb. The walk of the codec's Value. The walk of the codec's Row. -/
import Derived.Test.YtljmklohgpaopaaGreatDoorMgClashes5
import Derived.RegionTactic
import Derived.Deep.QuietTactic
import Derived.BigQuiet
import Derived.Test.YtljmklohgpaopaaGreatDoorMgClashes4
set_option linter.unusedVariables false
set_option linter.unusedSimpArgs false

namespace Go.Proofs.YtljmklohgpaopaaGreatDoor
open Go.RowKit Go.Extern.Stop Go.Stop Go.Extern

section
variable {P : Program} (w : World)
theorem run_equalIn_iface_int (d : Nat) {ti tn : TypeId} {ms : Array (String × TypeId)} {i : TypeInfo} {k : IntKind} (a b : Int)
    (hi : P.underlying ti = some (.interface ms)) (hn : P.underlying tn = some (.int k)) (hinfo : P.info? tn = some i) (hcomp : i.comparable = true) :
    (Op.equalIn (d + 2) ti (.iface tn (.int k a)) (.iface tn (.int k b))).run P w = .ok (a == b) w := by
  simp [Op.equalIn, run_underlying hi, run_underlying hn, typeInfo, hinfo, hcomp]
/-- 'x == y', both interface values of one integer type: as the numbers are. -/
theorem run_eql_iface_int {ti tn : TypeId} {ms : Array (String × TypeId)} {i : TypeInfo} {k : IntKind} (a b : Int)
    (hi : P.underlying ti = some (.interface ms)) (hn : P.underlying tn = some (.int k)) (hinfo : P.info? tn = some i) (hcomp : i.comparable = true) :
    (binOp .eql ti (.iface tn (.int k a)) (.iface tn (.int k b))).run P w = .ok (.bool (a == b)) w := by
  simp only [binOp]
  simp [Op.equal, Op.maxDepth, run_equalIn_iface_int w 9998 a b hi hn hinfo hcomp]
end

def cmpEntry : Array Value → Sem Value := ReflectliteType.method fun t => do Rtype.noPackHeld "Comparable" t; pure (.bool (← typeInfo t).comparable)
theorem Tryz.isComparableK (w : World) : (cmpEntry #[.agg #[.pointer (some ⟨2, 26, none⟩)]]).run Tryz.prog w = .ok (.bool true) w := by kernel_rfl
theorem Tryz.methodComparable (v : Value) (w : World) : (Go.method 442 272 v "Comparable").run Tryz.prog w = .ok (226, v) w := by kernel_rfl
theorem Tryz.compK : (Tryz.prog.info? 26).map (·.comparable) = some true := by kernel_rfl
theorem Tryz.noIsK (v : Value) (xT : TypeId) (w : World) : (Instr.typeAssert (.iface 26 v) xT 274 true).run Tryz.prog w = .ok (.tuple #[.nilIface, .bool false]) w := run_typeAssert_lacksB Tryz.underlying274 (by kernel_rfl) (by kernel_rfl) v xT w
theorem Tryz.noIsP (v : Value) (xT : TypeId) (w : World) : (Instr.typeAssert (.iface 212 v) xT 274 true).run Tryz.prog w = .ok (.tuple #[.nilIface, .bool false]) w := run_typeAssert_lacksB Tryz.underlying274 (by kernel_rfl) (by kernel_rfl) v xT w
theorem Tryz.hasUnwrapP (v : Value) (xT : TypeId) (w : World) : (Instr.typeAssert (.iface 212 v) xT 277 true).run Tryz.prog w = .ok (.tuple #[.iface 212 v, .bool true]) w := run_typeAssert_hasB Tryz.underlying277 (by kernel_rfl) v xT w
theorem Tryz.methodUnwrapP (a : Addr) (w : World) : (Go.method 442 212 (.pointer (some a)) "Unwrap").run Tryz.prog w = .ok (220, .pointer (some a)) w := by kernel_rfl
theorem x161 (args : Array Value) (w : World) : (callFunc 226 args).run Tryz.prog w = ((cmpEntry args).run Tryz.prog w).andThen fun v w' => .ok (.value v) w' :=
  @run_callFunc_extern Tryz.prog 226 _ cmpEntry Tryz.func226 (by kernel_rfl) (by kernel_rfl) (by kernel_rfl) (by kernel_rfl) args w

/-- errors.Is(nil, kind). -/
theorem is_nil (i : Int) (w : World) :
    Calls Tryz.prog 68 #[.nilIface, .iface 26 (.int .i64 i)] w fun e w' => e = .returned (.bool false) ∧ w = w' := by
  have hn := run_eql_iface_nil_left (P := Tryz.prog) w 26 (.int .i64 i) Tryz.underlying83
  go_enter Tryz.func68, Tryz.ntmps68
  go_wp2
  go_ret
  exact ⟨rfl, rfl⟩

set_option maxHeartbeats 1000000 in
set_option maxRecDepth 100000 in
/-- errors.Is(kind, kind). -/
theorem is_kind (k i : Int) (w : World) :
    Calls Tryz.prog 68 #[.iface 26 (.int .i64 k), .iface 26 (.int .i64 i)] w fun e w' => e = .returned (.bool (k == i)) ∧ w = w' := by
  obtain ⟨ti, hi, hcmp⟩ := Option.map_eq_some_iff.1 Tryz.compK
  have y1 := x99
  have y2 := x161
  have f1 := Tryz.typeOfK
  have f2 := Tryz.isComparableK
  have f3 := Tryz.methodComparable
  have n1 := Tryz.noIsK
  have n2 := Tryz.noUnwrapK
  have n3 := Tryz.noUnwrapsK
  have heq := run_eql_iface_int (P := Tryz.prog) w k i Tryz.underlying83 Tryz.underlying26 hi hcmp
  cases hki : (k == i)
  all_goals
    rw [hki] at heq
    clear hki hi hcmp
    go_enter Tryz.func68, Tryz.ntmps68
    go_wp2
    refine wp_loop_rounds 1 ?_
    rw [rounds_succ]
    go_wp2
    go_ret
    exact ⟨rfl, rfl⟩

set_option maxHeartbeats 2000000 in
set_option maxRecDepth 100000 in
/-- errors.Is(table error, kind). -/
theorem is_table (g : Nat) (t : Value) (k i : Int) (w : World) (hb : Blk w g 216 [t, .int .i64 k]) :
    Calls Tryz.prog 68 #[.iface 212 (.pointer (some ⟨g, 0, none⟩)), .iface 26 (.int .i64 i)] w fun e w' => e = .returned (.bool (k == i)) ∧ w = w' := by
  obtain ⟨ti, hi, hcmp⟩ := Option.map_eq_some_iff.1 Tryz.compK
  have y1 := x99
  have y2 := x161
  have f1 := Tryz.typeOfK
  have f2 := Tryz.isComparableK
  have f3 := Tryz.methodComparable
  have n1 := Tryz.noIsK
  have n2 := Tryz.noUnwrapK
  have n3 := Tryz.noUnwrapsK
  have n4 := Tryz.noIsP
  have n5 := Tryz.hasUnwrapP
  have n6 := Tryz.methodUnwrapP
  have hc := hb.cell 1
  simp only [List.getElem?_cons_succ, List.getElem?_cons_zero] at hc
  have heq := run_eql_iface_int (P := Tryz.prog) w k i Tryz.underlying83 Tryz.underlying26 hi hcmp
  have hty := run_eql_iface_types (P := Tryz.prog) 212 26 (.pointer (some ⟨g, 0, none⟩)) (.int .i64 i) Tryz.underlying83 (by decide) w
  cases hki : (k == i)
  all_goals
    rw [hki] at heq
    clear hki hi hcmp
    go_enter Tryz.func68, Tryz.ntmps68
    go_wp2
    refine wp_loop_rounds 2 ?_
    rw [rounds_succ]
    go_wp2
    rw [rounds_succ]
    go_wp2
    go_ret
    exact ⟨rfl, rfl⟩
end Go.Proofs.YtljmklohgpaopaaGreatDoor

namespace Go.Proofs.YtljmklohgpaopaaGreatDoor
open Go.RowKit Go.Extern.Stop Go.Stop Go.Extern

/-- The value is an error of this kind (0: none), of this table. -/
def ErrV (w : World) (v : Value) (k : Nat) (t : ByteArray) : Prop :=
  (v = .nilIface ∧ k = 0 ∧ t = ⟨#[]⟩) ∨ (v = .iface 26 (.int .i64 (k : Int)) ∧ t = ⟨#[]⟩) ∨
    ∃ g, v = .iface 212 (.pointer (some ⟨g, 0, none⟩)) ∧ Blk w g 216 [.string t, .int .i64 (k : Int)]
theorem ErrV.nil (w : World) : ErrV w .nilIface 0 ⟨#[]⟩ := .inl ⟨rfl, rfl, rfl⟩
theorem ErrV.kind (w : World) (k : Nat) : ErrV w (.iface 26 (.int .i64 (k : Int))) k ⟨#[]⟩ := .inr (.inl ⟨rfl, rfl⟩)
theorem ErrV.below {w w' : World} {v : Value} {k : Nat} {t : ByteArray} (h : ErrV w v k t) (hb : Below w.heap.size w w') : ErrV w' v k t := by
  rcases h with h | h | ⟨g, h, hg⟩
  · exact .inl h
  · exact .inr (.inl h)
  · exact .inr (.inr ⟨g, h, hg.below hb hg.lt⟩)
theorem GE.below {w w' : World} (h : GE w) (hb : Below w.heap.size w w') : GE w' := by
  have hz := World.block_lt_of_cell? _ _ h
  exact (hb.cell (p := ⟨1, 0, none⟩) hz).trans h
theorem GE.lt {w : World} (h : GE w) : 1 < w.heap.size := World.block_lt_of_cell? _ _ h

theorem told0_nil (w : World) (hG : GE w) :
    Calls Tryz.prog 67 #[.nilIface] w fun e w' => e = .returned (.tuple #[.int .i64 0, .string ⟨#[]⟩]) ∧ Below w.heap.size w w' := by
  go_enter Tryz.func67, Tryz.ntmps67
  go_wp2_with fail
  refine (as_nil _ _).mono ?_
  rintro e w' ⟨rfl, rfl⟩
  go_wp2_with fail
  refine (as_nil _ _).mono ?_
  rintro e w' ⟨rfl, rfl⟩
  go_wp2_with fail
  go_ret2
  exact ⟨rfl, ((Below.refl _ _).alloc (Nat.le_refl _) _).alloc (by simp) _⟩

theorem GE.alloc {w : World} (h : GE w) (o : Obj) : GE (w.alloc o) := h.below ((Below.refl _ _).alloc (Nat.le_refl _) _)

set_option maxHeartbeats 1000000 in
theorem told0_kind (k : Int) (w : World) (hG : GE w) :
    Calls Tryz.prog 67 #[.iface 26 (.int .i64 k)] w fun e w' => e = .returned (.tuple #[.int .i64 k, .string ⟨#[]⟩]) ∧ Below w.heap.size w w' := by
  go_enter Tryz.func67, Tryz.ntmps67
  go_wp2_with fail
  refine (as_K_miss k w.heap.size _ _ (hG.alloc _) (Blk.new w _ _)).mono ?_
  rintro e w1 ⟨rfl, hb1⟩
  have hs1 := hb1.size
  simp only [World.size_alloc] at hs1
  go_wp2_with fail
  refine (as_K_hit k w1.heap.size _ _ (((hG.alloc _).below hb1).alloc _) (Blk.new w1 _ _)).mono ?_
  rintro e w2 ⟨rfl, hon, hblk⟩
  have hc := hblk.cell 0
  simp only [List.getElem?_cons_zero] at hc
  go_wp2_with fail
  go_ret2
  have h1 : Below w.heap.size w w1 := ((Below.refl _ _).alloc (Nat.le_refl _) _).trans (hb1.mono (by simp))
  exact ⟨rfl, (h1.alloc h1.size _).trans (below_of_only hon h1.size (by have := h1.size; simp; omega))⟩

set_option maxHeartbeats 1000000 in
theorem told0_table (g : Nat) (t : ByteArray) (k : Int) (w : World) (hG : GE w) (hb : Blk w g 216 [.string t, .int .i64 k]) :
    Calls Tryz.prog 67 #[.iface 212 (.pointer (some ⟨g, 0, none⟩))] w fun e w' => e = .returned (.tuple #[.int .i64 k, .string t]) ∧ Below w.heap.size w w' := by
  go_enter Tryz.func67, Tryz.ntmps67
  go_wp2_with fail
  refine (as_P_hit ⟨g, 0, none⟩ w.heap.size _ _ (hG.alloc _) (Blk.new w _ _)).mono ?_
  rintro e w2 ⟨rfl, hon, hblk⟩
  have hc := hblk.cell 0
  simp only [List.getElem?_cons_zero] at hc
  have hb2 := (hb.alloc (.cells #[.pointer none] 212)).grown hon (by have := hb.lt; simp; omega)
  have hc0 := hb2.cell 0
  have hc1 := hb2.cell 1
  simp only [List.getElem?_cons_succ, List.getElem?_cons_zero] at hc0 hc1
  have hbel : Below w.heap.size w w2 := ((Below.refl _ _).alloc (Nat.le_refl _) _).trans (below_of_only hon (Nat.le_refl _) (by simp))
  have HB := Lib.hid hbel
  clear hbel hon hblk hb2 hb
  go_wp2_with fail
  go_quiet (fail)
  go_wp2_with fail
  go_ret2
  exact ⟨rfl, below_drewN HB.out _⟩

theorem told0_any (v : Value) (k : Nat) (t : ByteArray) (w : World) (hG : GE w) (h : ErrV w v k t) :
    Calls Tryz.prog 67 #[v] w fun e w' => e = .returned (.tuple #[.int .i64 (k : Int), .string t]) ∧ Below w.heap.size w w' := by
  rcases h with ⟨rfl, rfl, rfl⟩ | ⟨rfl, rfl⟩ | ⟨g, rfl, hb⟩
  · exact told0_nil w hG
  · exact told0_kind k w hG
  · exact told0_table g t k w hG hb
theorem is_any (v : Value) (k : Nat) (t : ByteArray) (i : Int) (w : World) (h : ErrV w v k t) (hi : 1 ≤ i) :
    Calls Tryz.prog 68 #[v, .iface 26 (.int .i64 i)] w fun e w' => e = .returned (.bool ((k : Int) == i)) ∧ w = w' := by
  rcases h with ⟨rfl, rfl, rfl⟩ | ⟨rfl, rfl⟩ | ⟨g, rfl, hb⟩
  · refine (is_nil i w).mono fun e w' ⟨he, hw⟩ => ⟨?_, hw⟩
    rw [he]
    have : (((0 : Nat) : Int) == i) = false := by simp; omega
    rw [this]
  · exact is_kind k i w
  · exact is_table g _ k i w hb

set_option maxHeartbeats 1000000 in
theorem told_any (v : Value) (k : Nat) (t : ByteArray) (w : World) (hG : GE w) (h : ErrV w v k t) (hk : k ≤ 21) :
    Calls Tryz.prog 35 #[v] w fun e w' => e = .returned (.agg #[.int .i64 (k : Int), .string t, .bool true]) ∧ Below w.heap.size w w' := by
  go_enter Tryz.func35, Tryz.ntmps35
  go_wp2_with fail
  refine (told0_any v k t _ (hG.alloc _) (h.below ((Below.refl _ _).alloc (Nat.le_refl _) _))).mono ?_
  rintro e w1 ⟨rfl, hb1⟩
  have hs1 := hb1.size
  simp only [World.size_alloc] at hs1
  have h1 : Below w.heap.size w w1 := ((Below.refl _ _).alloc (Nat.le_refl _) _).trans (hb1.mono (by simp))
  have hE := h.below (h1.trans ((Below.refl _ _).alloc h1.size (.cells #[.int .i64 (k : Int), .string t, .bool true] 28)))
  have hblk2 : Blk w1 w.heap.size 28 [.int .i64 0, .string ⟨#[]⟩, .bool false] := (Blk.new w 28 [.int .i64 0, .string ⟨#[]⟩, .bool false]).below hb1 (by simp)
  have H1 := Lib.hid h1
  have HB2 := Lib.hid hblk2
  have HE := Lib.hid hE
  clear h1 hb1 hblk2 hE h hG
  go_wp2_with fail
  go_loop [6] (fun i => ∃ n : Nat, 1 ≤ n ∧ n ≤ 22 ∧ i = .int .i64 (n : Int)) (fun i => 22 - (intOf i).toNat)
  case atStart => exact ⟨1, by omega, by omega, rfl⟩
  case round =>
    obtain ⟨n, hn1, hn2, rfl⟩ := hrel
    by_cases hlt : n ≤ 21
    · cases hkn : (((k : Nat) : Int) == (n : Int))
      all_goals
        have hnk : ((n : Int) == ((k : Nat) : Int)) = _ := Bool.beq_comm.trans hkn
        have HKN := Lib.hid hkn
        clear hkn
        go_wp2_with fail
        refine (is_any v k t n _ HE.out (by omega)).mono ?_
        rintro e w' ⟨rfl, rfl⟩
        rw [HKN.out]
        go_wp2_with fail
        go_round
        case rel => exact ⟨n + 1, by omega, by omega, by go_num⟩
        case measure => simp [intOf]; omega
    · have hB3 := HB2.out.alloc (.cells #[.int .i64 (k : Int), .string t, .bool true] 28)
      have c0 := hB3.cell 0
      have c1 := hB3.cell 1
      have c2 := hB3.cell 2
      have f0 := hB3.frozen 0
      have f1 := hB3.frozen 1
      have f2 := hB3.frozen 2
      simp only [List.getElem?_cons_succ, List.getElem?_cons_zero] at c0 c1 c2
      have hW := ((hB3.set_ 0 (.int .i64 (k : Int))).set_ 1 (.string t)).set_ 2 (.bool true)
      have HW := Lib.hid hW
      clear hB3 hW
      go_wp2_with fail
      have d0 := HW.out.cell 0
      have d1 := HW.out.cell 1
      have d2 := HW.out.cell 2
      simp only [List.set_cons_zero, List.set_cons_succ, List.getElem?_cons_succ, List.getElem?_cons_zero] at d0 d1 d2
      refine bodyPost_ret (v := .agg #[.int .i64 (k : Int), .string t, .bool true]) (by simp [results, Tryz.results35, go_sem, d0, d1, d2]) rfl ⟨rfl, ?_⟩
      exact (((H1.out.alloc H1.out.size _).setCell (Nat.le_refl _) _).setCell (Nat.le_refl _) _).setCell (Nat.le_refl _) _
end Go.Proofs.YtljmklohgpaopaaGreatDoor

namespace Go.Proofs.YtljmklohgpaopaaGreatDoor
open Go.RowKit

def errA (k : Int) (t : ByteArray) : Value := .agg #[.int .i64 k, .string t, .bool true]

/-- '==' between two errors in plain data. -/
theorem eql_err (k k' : Int) (t t' : ByteArray) (b b' : Bool) (w : World) :
    (binOp .eql 28 (.agg #[.int .i64 k, .string t, .bool b]) (.agg #[.int .i64 k', .string t', .bool b'])).run Tryz.prog w = .ok (.bool (k == k' && (t.toList == t'.toList && b == b'))) w := by
  have he := run_equalIn_struct (P := Tryz.prog) w 9999 28 #[.int .i64 k, .string t, .bool b] #[.int .i64 k', .string t', .bool b'] (by kernel_rfl) (by kernel_rfl)
  simp only [binOp]
  simp only [Op.equal, Op.maxDepth, Sem.run_bind, he]
  simp [go_sem, part]
  by_cases h1 : k = k' <;> by_cases h2 : t.toList = t'.toList <;> by_cases h3 : b = b' <;> simp [h1, h2, h3]

end Go.Proofs.YtljmklohgpaopaaGreatDoor

namespace Go.Proofs.YtljmklohgpaopaaGreatDoor
open Go.RowKit


theorem is_eq (k k' : Int) (t t' : ByteArray) (w : World) :
    Calls Tryz.prog 38 #[errA k t, .int .i64 k', .string t'] w fun e w' => e = .returned (.bool (k == k' && t.toList == t'.toList)) ∧ Below w.heap.size w w' := by
  have q := eql_err
  unfold errA
  go_enter Tryz.func38, Tryz.ntmps38
  go_wp2_with fail
  go_ret
  refine ⟨?_, (Below.refl _ _).alloc (Nat.le_refl _) _⟩
  simp

theorem bare_any (k k' : Int) (t : ByteArray) (w : World) :
    Calls Tryz.prog 11 #[errA k t, .int .i64 k'] w fun e w' => e = .returned (.bool (k == k' && t.toList.isEmpty)) ∧ Below w.heap.size w w' := by
  unfold errA
  go_enter Tryz.func11, Tryz.ntmps11
  go_wp2_with fail
  refine (is_eq k k' t ⟨#[]⟩ _).mono ?_
  rintro e w1 ⟨rfl, hb1⟩
  go_wp2_with fail
  go_ret
  exact ⟨rfl, ((Below.refl _ _).alloc (Nat.le_refl _) _).trans (hb1.mono (by simp))⟩

end Go.Proofs.YtljmklohgpaopaaGreatDoor

namespace Go.Proofs.YtljmklohgpaopaaGreatDoor
open Go.RowKit

theorem facts3 {w : World} {g : Nat} {t : TypeId} {a0 a1 a2 : Value} (h : Blk w g t [a0, a1, a2]) :
    w.cell? ⟨g, 0, none⟩ = some a0 ∧ w.cell? ⟨g, 1, none⟩ = some a1 ∧ w.cell? ⟨g, 2, none⟩ = some a2 ∧
    w.frozen? ⟨g, 0, none⟩ = false ∧ w.frozen? ⟨g, 1, none⟩ = false ∧ w.frozen? ⟨g, 2, none⟩ = false :=
  ⟨h.cell 0, h.cell 1, h.cell 2, h.frozen 0, h.frozen 1, h.frozen 2⟩
theorem Blk.set3 {w : World} {g : Nat} {t : TypeId} {a0 a1 a2 : Value} (h : Blk w g t [a0, a1, a2]) (x0 x1 x2 : Value) :
    Blk (((w.setCell ⟨g, 0, none⟩ x0).setCell ⟨g, 1, none⟩ x1).setCell ⟨g, 2, none⟩ x2) g t [x0, x1, x2] :=
  ((h.set_ 0 x0).set_ 1 x1).set_ 2 x2
/-- The four cells of hash k in a row of hashes. -/
theorem Src.hashAt {w : World} {b off k x : Nat} {ps : List Nat} (h : Src w (some ⟨b, off, none⟩) (hcs ps)) (hk : ps[k]? = some x) :
    w.cell? ⟨b, off + k * 4, none⟩ = some (.int .u8 ((x : Int) / 16777216)) ∧ w.cell? ⟨b, off + k * 4 + 1, none⟩ = some (.int .u8 ((x : Int) / 65536 % 256)) ∧
    w.cell? ⟨b, off + k * 4 + 2, none⟩ = some (.int .u8 ((x : Int) / 256 % 256)) ∧ w.cell? ⟨b, off + k * 4 + 3, none⟩ = some (.int .u8 ((x : Int) % 256)) := by
  have hlt : k < ps.length := by
    rcases Nat.lt_or_ge k ps.length with h' | h'
    · exact h'
    · rw [List.getElem?_eq_none h'] at hk; cases hk
  have hx : ps[k] = x := by rw [List.getElem?_eq_getElem hlt] at hk; exact Option.some.inj hk
  have h2 : Src w (some ⟨b, off, none⟩) (hcs (ps.take k ++ [x])) := by
    have := h.take ((k + 1) * 4)
    rw [← hx, ← List.take_succ_eq_append_getElem hlt]
    have e : hcs ps = hcs (ps.take (k + 1)) ++ hcs (ps.drop (k + 1)) := by rw [← hcs_append, List.take_append_drop]
    rw [e, List.take_left' (by rw [hcs_len, List.length_take, Nat.min_eq_left (by omega)])] at this
    exact this
  exact h2.last4 (by rw [List.length_take]; omega)

end Go.Proofs.YtljmklohgpaopaaGreatDoor

namespace Go.Proofs.YtljmklohgpaopaaGreatDoor
open Go.RowKit

theorem pVal_eq (l : List UInt8) : Pl.pVal l = if l.length < 1 then none else if Pl.num (l.take 1) = 1 then (if (l.drop 1).length < 8 then none else some (⟨1, Pl.num ((l.drop 1).take 8), []⟩, (l.drop 1).drop 8))
    else if ((l.drop 1).length < 1 ∨ ((l.drop 1).drop 1).length < Pl.num ((l.drop 1).take 1)) ∨ ¬ (Pl.num (l.take 1) = 2 ∧ (((l.drop 1).drop 1).take (Pl.num ((l.drop 1).take 1))).length ≤ 16) then none
      else some (⟨2, 0, ((l.drop 1).drop 1).take (Pl.num ((l.drop 1).take 1))⟩, ((l.drop 1).drop 1).drop (Pl.num ((l.drop 1).take 1))) := by
  unfold Pl.pVal
  rw [tk_eq]
  by_cases h : l.length < 1
  · rw [if_pos h, if_pos h]; rfl
  · rw [if_neg h, if_neg h]
    simp only [Option.bind_some]
    by_cases h1 : Pl.num (l.take 1) = 1
    · rw [if_pos h1, if_pos h1, tk_eq]
      by_cases h2 : (l.drop 1).length < 8
      · rw [if_pos h2, if_pos h2]; rfl
      · rw [if_neg h2, if_neg h2]; rfl
    · rw [if_neg h1, if_neg h1, pShort_eq]
      by_cases h2 : (l.drop 1).length < 1 ∨ ((l.drop 1).drop 1).length < Pl.num ((l.drop 1).take 1)
      · rw [if_pos h2, if_pos (.inl h2)]; rfl
      · rw [if_neg h2]
        simp only [Option.bind_some]
        by_cases h3 : Pl.num (l.take 1) = 2 ∧ (((l.drop 1).drop 1).take (Pl.num ((l.drop 1).take 1))).length ≤ 16
        · rw [if_pos h3, if_neg (by rintro (e | e) <;> contradiction)]
        · rw [if_neg h3, if_pos (.inr h3)]
theorem results_value {fn : Func} {t : Tmp} {tmps : Array Value} {w : World} {g : Nat} {a b : Int} {s : ByteArray} (h : fn.results = #[.cell t 122]) (ht : tmps.getD t undef = .pointer (some ⟨g, 0, none⟩)) (hB : Blk w g 122 [.int .i64 a, .int .i64 b, .string s]) :
    (results fn tmps).run Tryz.prog w = .ok (.agg #[.int .i64 a, .int .i64 b, .string s]) w := by
  have c0 := hB.cell 0
  have c1 := hB.cell 1
  have c2 := hB.cell 2
  simp only [List.getElem?_cons_succ, List.getElem?_cons_zero] at c0 c1 c2
  simp only [Array.getD_eq_getD_getElem?] at ht
  simp [results, h, ht, go_sem, c0, c1, c2, asAddr]

set_option maxHeartbeats 1000000 in
theorem value_any (g : Nat) (l : List UInt8) (bad : Bool) (w : World) (h : Rdr w g l bad) :
    Calls Tryz.prog 192 #[.pointer (some ⟨g, 0, none⟩)] w fun e w' => ∃ v : Pl.Vl, e = .returned (vlV v) ∧ (v.ty < 256 ∧ v.n < 18446744073709551616 ∧ v.s.length ≤ 255) ∧ Rd (Pl.pVal l) g bad v w w' := by
  have hgl : g < w.heap.size := h.lt
  have hn := Pl.num_take_lt l 1
  have hpe := pVal_eq l
  obtain ⟨ty, hty⟩ : ∃ n, Pl.num (l.take 1) = n := ⟨_, rfl⟩
  obtain ⟨l1, hl1⟩ : ∃ l1, l.drop 1 = l1 := ⟨_, rfl⟩
  obtain ⟨b2, hb2⟩ : ∃ b2, w.heap.size = b2 := ⟨_, rfl⟩
  obtain ⟨w0, hw0⟩ : ∃ w0, w.alloc (.cells #[.int .i64 0, .int .i64 0, .string ⟨#[]⟩] 122) = w0 := ⟨_, rfl⟩
  have hb0 : Below w.heap.size w w0 := by rw [← hw0]; exact (Below.refl _ _).alloc (Nat.le_refl _) _
  have B0 : Blk w0 b2 122 [.int .i64 0, .int .i64 0, .string ⟨#[]⟩] := by rw [← hw0, ← hb2]; exact Blk.new w 122 _
  have HNUM := Lib.hid (num_any g 1 l bad w0 (h.below hb0) (by omega))
  rw [hty, hl1] at HNUM hpe
  rw [hty] at hn
  have HPE := Lib.hid hpe
  have HB0 := Lib.hid B0
  have HO0 := Lib.hid (Only.of_below hb0 (· = g))
  have hgb : g ≠ b2 := by omega
  clear hpe hb0 B0 h hty hl1
  go_enter Tryz.func192, Tryz.ntmps192
  go_wp2_with fail
  refine HNUM.out.mono ?_
  rintro e w1 ⟨rfl, hR1, hg1⟩
  have HO1 := Lib.hid (HO0.out.trans' (Only.of_grown hg1))
  have HB1 := Lib.hid (HB0.out.grown hg1 (by simpa using Ne.symm hgb))
  obtain ⟨b3, hb3⟩ : ∃ b3, w1.heap.size = b3 := ⟨_, rfl⟩
  obtain ⟨wz, hwz⟩ : ∃ wz, w1.alloc (.cells #[.int .i64 0, .int .i64 0, .string ⟨#[]⟩] 122) = wz := ⟨_, rfl⟩
  have hbz : Below w1.heap.size w1 wz := by rw [← hwz]; exact (Below.refl _ _).alloc (Nat.le_refl _) _
  have BZ : Blk wz b3 122 [.int .i64 0, .int .i64 0, .string ⟨#[]⟩] := by rw [← hwz, ← hb3]; exact Blk.new w1 122 _
  obtain ⟨z0, z1, z2, e0, e1, e2⟩ := facts3 BZ
  obtain ⟨w1a, hw1a⟩ : ∃ w1a, ((wz.setCell ⟨b3, 0, none⟩ (.int .i64 (ty : Int))).setCell ⟨b3, 1, none⟩ (.int .i64 0)).setCell ⟨b3, 2, none⟩ (.string ⟨#[]⟩) = w1a := ⟨_, rfl⟩
  have hb1a : Below w1.heap.size w1 w1a := by
    rw [← hw1a]
    have h1 : w1.heap.size ≤ b3 := by omega
    exact ((hbz.setCell (p := ⟨b3, 0, none⟩) h1 _).setCell (p := ⟨b3, 1, none⟩) h1 _).setCell (p := ⟨b3, 2, none⟩) h1 _
  have BV : Blk w1a b3 122 [.int .i64 (ty : Int), .int .i64 0, .string ⟨#[]⟩] := by rw [← hw1a]; exact BZ.set3 _ _ _
  have HR1a := Lib.hid (hR1.below hb1a)
  have HB1a := Lib.hid (HB1.out.below hb1a HB1.out.lt)
  have HO1a := Lib.hid (HO1.out.below hb1a)
  have HBV := Lib.hid BV
  obtain ⟨c0, c1, c2, f0, f1, f2⟩ := facts3 BV
  clear hR1 hg1 hb1a BV hbz BZ
  have hs1 : w.heap.size ≤ w1.heap.size := HO1.out.size
  have hg3 : g ≠ b3 := by omega
  have h23 : b2 ≠ b3 := by
    have := HB1.out.lt
    omega
  obtain ⟨n8, hn8⟩ : ∃ n, Pl.num (l1.take 8) = n := ⟨_, rfl⟩
  have hn8lt : n8 < 18446744073709551616 := by
    have h5 := Pl.num_take_lt l1 8
    rw [hn8] at h5
    have hp8 : (256 : Nat) ^ 8 = 18446744073709551616 := by decide
    omega
  by_cases h1 : ty = 1
  · have q1 : (((ty : Nat) : Int) == 1) = true := by rw [h1]; rfl
    have HN8 := Lib.hid (num8_any g l1 _ w1a HR1a.out)
    rw [hn8] at HN8
    have HT := Lib.hid h1
    clear h1
    go_wp2_with fail
    refine HN8.out.mono ?_
    rintro e w2 ⟨rfl, hR2, hg2⟩
    have HB2 := Lib.hid (HB1a.out.grown hg2 (by simpa using Ne.symm hgb))
    have hv2 := HBV.out.grown hg2 (by simpa using Ne.symm hg3)
    have HO2 := Lib.hid (HO1a.out.trans' (Only.of_grown hg2))
    have HV2 := Lib.hid hv2
    have HR2 := Lib.hid hR2
    clear c0 c1 c2 f0 f1 f2
    obtain ⟨c0, c1, c2, f0, f1, f2⟩ := facts3 hv2
    obtain ⟨w3, hw3⟩ : ∃ w3, w2.setCell ⟨b3, 1, none⟩ (.int .i64 (sig n8)) = w3 := ⟨_, rfl⟩
    have hv3 : Blk w3 b3 122 [.int .i64 (ty : Int), .int .i64 (sig n8), .string ⟨#[]⟩] := by rw [← hw3]; exact hv2.set_ 1 _
    have ho3 : Only (· = b3) w2 w3 := by rw [← hw3]; exact (Only.refl (· = b3) w2).setCell (p := ⟨b3, 1, none⟩) (.inl rfl) _
    have HV3 := Lib.hid hv3
    have HB3 := Lib.hid (ho3.blk HB2.out h23)
    have HR3 := Lib.hid (HR2.out.only ho3 (fun x hx e => by omega))
    have HO3 : Hid (Only (· = g) w w3) := HO2.out.trans ho3 (fun k hk e => by omega)
    have HIS := isValue_any (ty : Int) (sig n8) ⟨#[]⟩ w3 (by decide)
    rw [if_pos (by rw [HT.out]; rfl), show (⟨#[]⟩ : ByteArray).data.toList.isEmpty = true from rfl] at HIS
    have HIS := Lib.hid HIS
    obtain ⟨d0, d1, d2, k0, k1, k2⟩ := facts3 hv3
    clear hv2 hR2 hg2 hv3 ho3
    go_wp2_with fail
    refine HIS.out.mono ?_
    rintro e w4 ⟨rfl, hb4⟩
    have HMU := Lib.hid (must_any g _ _ true w4 (HR3.out.below hb4))
    have HV4 := Lib.hid (HV3.out.below hb4 HV3.out.lt)
    have HB4 := Lib.hid (HB3.out.below hb4 HB3.out.lt)
    have HO4 := Lib.hid (HO3.out.below hb4)
    clear hb4 HIS c0 c1 c2 f0 f1 f2 d0 d1 d2 k0 k1 k2
    go_wp2_with fail
    refine HMU.out.mono ?_
    rintro e w5 ⟨rfl, hR5, ho5⟩
    have hv5 := ho5.blk HV4.out (Ne.symm hg3)
    have hB5 := ho5.blk HB4.out (Ne.symm hgb)
    have HO5 := Lib.hid (HO4.out.trans' ho5)
    have HR5 := Lib.hid hR5
    obtain ⟨c0, c1, c2, f0, f1, f2⟩ := facts3 hv5
    obtain ⟨d0, d1, d2, k0, k1, k2⟩ := facts3 hB5
    obtain ⟨w6, hw6⟩ : ∃ w6, ((w5.setCell ⟨b2, 0, none⟩ (.int .i64 (ty : Int))).setCell ⟨b2, 1, none⟩ (.int .i64 (sig n8))).setCell ⟨b2, 2, none⟩ (.string ⟨#[]⟩) = w6 := ⟨_, rfl⟩
    have HB6 := Lib.hid (show Blk w6 b2 122 [.int .i64 (ty : Int), .int .i64 (sig n8), .string ⟨#[]⟩] by rw [← hw6]; exact hB5.set3 _ _ _)
    have ho6 : Only (· = b2) w5 w6 := by
      rw [← hw6]
      exact (((Only.refl (· = b2) w5).setCell (p := ⟨b2, 0, none⟩) (.inl rfl) _).setCell (p := ⟨b2, 1, none⟩) (.inl rfl) _).setCell (p := ⟨b2, 2, none⟩) (.inl rfl) _
    have HR6 := Lib.hid (HR5.out.only ho6 (fun x hx e => by omega))
    have HO6 : Hid (Only (· = g) w w6) := HO5.out.trans ho6 (fun k hk e => by omega)
    clear hR5 ho5 hv5 hB5 ho6
    go_wp2_with fail
    refine bodyPost_ret (v := vlV ⟨ty, n8, []⟩) (results_value rfl rfl HB6.out) rfl ⟨_, rfl, ⟨(by simpa using hn : ty < 256), hn8lt, Nat.zero_le _⟩, _, _, HR6.out, ?_, ?_, HO6.out⟩
    · rw [HPE.out, if_pos HT.out, hn8]
      by_cases c1 : l.length < 1
      · simp [c1]
      · by_cases c2 : l1.length < 8
        · simp [c2]
        · simp [c1, c2]
    · intro y r hy
      rw [HPE.out, if_pos HT.out, hn8] at hy
      split at hy
      · cases hy
      · split at hy
        · cases hy
        · injection hy with hy
          injection hy with h1 h2
          refine ⟨?_, h2⟩
          rw [← h1, HT.out]
  · have q1 : (((ty : Nat) : Int) == 1) = false := beq_eq_false_iff_ne.2 (by omega)
    obtain ⟨n, hnn⟩ : ∃ n, Pl.num (l1.take 1) = n := ⟨_, rfl⟩
    obtain ⟨l2, hl2⟩ : ∃ l2, l1.drop 1 = l2 := ⟨_, rfl⟩
    obtain ⟨nm, hnm⟩ : ∃ nm, l2.take n = nm := ⟨_, rfl⟩
    have hpe2 := HPE.out
    have hn2 := Pl.num_take_lt l1 1
    have HN1 := Lib.hid (num_any g 1 l1 _ w1a HR1a.out (by omega))
    rw [if_neg h1] at hpe2
    rw [hnn, hl2, hnm] at hpe2
    rw [hnn, hl2] at HN1
    rw [hnn] at hn2
    have HPE2 := Lib.hid hpe2
    have hnl : nm.length ≤ 255 := by rw [← hnm, List.length_take]; omega
    have HNM := Lib.hid hnm
    have HT := Lib.hid h1
    have hts : (tstr nm).data.toList = nm := rfl
    clear h1 hpe2 hnm HPE
    go_wp2_with fail
    refine HN1.out.mono ?_
    rintro e w2 ⟨rfl, hR2, hg2⟩
    have HTK := Lib.hid (take_any g n l2 _ w2 hR2 (by omega))
    have HB2 := Lib.hid (HB1a.out.grown hg2 (by simpa using Ne.symm hgb))
    have HV2 := Lib.hid (HBV.out.grown hg2 (by simpa using Ne.symm hg3))
    have HO2 := Lib.hid (HO1a.out.trans' (Only.of_grown hg2))
    clear hR2 hg2 c0 c1 c2 f0 f1 f2
    go_wp2_with fail
    refine HTK.out.mono ?_
    rintro e w3 ⟨A, rfl, hb3x, hA3, hR3, hg3x⟩
    rw [HNM.out] at hb3x
    have HB3 := Lib.hid (HB2.out.grown hg3x (by simpa using Ne.symm hgb))
    have hv3 := HV2.out.grown hg3x (by simpa using Ne.symm hg3)
    have HV3 := Lib.hid hv3
    have HO3 := Lib.hid (HO2.out.trans' (Only.of_grown hg3x))
    have HR3 := Lib.hid hR3
    have hcv := run_tostr w3 A nm nm.length hb3x
    rw [HNM.out]
    obtain ⟨c0, c1, c2, f0, f1, f2⟩ := facts3 hv3
    obtain ⟨w4, hw4⟩ : ∃ w4, w3.setCell ⟨b3, 2, none⟩ (.string (tstr nm)) = w4 := ⟨_, rfl⟩
    have hv4 : Blk w4 b3 122 [.int .i64 (ty : Int), .int .i64 0, .string (tstr nm)] := by rw [← hw4]; exact hv3.set_ 2 _
    have ho4 : Only (· = b3) w3 w4 := by rw [← hw4]; exact (Only.refl (· = b3) w3).setCell (p := ⟨b3, 2, none⟩) (.inl rfl) _
    have HV4 := Lib.hid hv4
    have HB4 := Lib.hid (ho4.blk HB3.out h23)
    have HR4 := Lib.hid (HR3.out.only ho4 (fun x hx e => by omega))
    have HO4 : Hid (Only (· = g) w w4) := HO3.out.trans ho4 (fun k hk e => by omega)
    have HIS := isValue_any (ty : Int) 0 (tstr nm) w4 (by rw [tstr_size]; omega)
    obtain ⟨b, hb⟩ : ∃ b, (if (ty : Int) = 1 then (tstr nm).data.toList.isEmpty else if (ty : Int) = 2 then (decide ((0 : Int) = 0) && decide ((tstr nm).size ≤ 16)) else false) = b := ⟨_, rfl⟩
    rw [hb] at HIS
    have HIS := Lib.hid HIS
    have HBB : Hid (b = decide (ty = 2 ∧ nm.length ≤ 16)) := by
      have ht1 := HT.out
      show b = _
      rw [← hb, if_neg (by omega), tstr_size]
      by_cases h2 : ty = 2
      · rw [if_pos (by omega)]; simp [h2]
      · rw [if_neg (by omega)]; simp [h2]
    obtain ⟨d0, d1, d2, k0, k1, k2⟩ := facts3 hv4
    clear hv3 hR3 hg3x hv4 ho4 hb hb3x hA3
    go_wp2_with fail
    refine HIS.out.mono ?_
    rintro e w5 ⟨rfl, hb5⟩
    have HMU := Lib.hid (must_any g _ _ b w5 (HR4.out.below hb5))
    have HV5 := Lib.hid (HV4.out.below hb5 HV4.out.lt)
    have HB5 := Lib.hid (HB4.out.below hb5 HB4.out.lt)
    have HO5 := Lib.hid (HO4.out.below hb5)
    clear hb5 HIS c0 c1 c2 f0 f1 f2 d0 d1 d2 k0 k1 k2 hcv
    go_wp2_with fail
    refine HMU.out.mono ?_
    rintro e w6 ⟨rfl, hR6, ho6⟩
    have hv6 := ho6.blk HV5.out (Ne.symm hg3)
    have hB6 := ho6.blk HB5.out (Ne.symm hgb)
    have HO6 := Lib.hid (HO5.out.trans' ho6)
    have HR6 := Lib.hid hR6
    obtain ⟨c0, c1, c2, f0, f1, f2⟩ := facts3 hv6
    obtain ⟨d0, d1, d2, k0, k1, k2⟩ := facts3 hB6
    obtain ⟨w7, hw7⟩ : ∃ w7, ((w6.setCell ⟨b2, 0, none⟩ (.int .i64 (ty : Int))).setCell ⟨b2, 1, none⟩ (.int .i64 0)).setCell ⟨b2, 2, none⟩ (.string (tstr nm)) = w7 := ⟨_, rfl⟩
    have HB7 := Lib.hid (show Blk w7 b2 122 [.int .i64 (ty : Int), .int .i64 0, .string (tstr nm)] by rw [← hw7]; exact hB6.set3 _ _ _)
    have ho7 : Only (· = b2) w6 w7 := by
      rw [← hw7]
      exact (((Only.refl (· = b2) w6).setCell (p := ⟨b2, 0, none⟩) (.inl rfl) _).setCell (p := ⟨b2, 1, none⟩) (.inl rfl) _).setCell (p := ⟨b2, 2, none⟩) (.inl rfl) _
    have HR7 := Lib.hid (HR6.out.only ho7 (fun x hx e => by omega))
    have HO7 : Hid (Only (· = g) w w7) := HO6.out.trans ho7 (fun k hk e => by omega)
    clear hR6 ho6 hv6 hB6 ho7
    go_wp2_with fail
    refine bodyPost_ret (v := vlV ⟨ty, 0, nm⟩) (results_value rfl rfl HB7.out) rfl ⟨_, rfl, ⟨(by simpa using hn : ty < 256), Nat.zero_lt_of_lt hn8lt, hnl⟩, _, _, HR7.out, ?_, ?_, HO7.out⟩
    · rw [HPE2.out, HBB.out]
      by_cases c1 : l.length < 1
      · simp [c1]
      · by_cases c2 : l1.length < 1
        · simp [c2]
        · by_cases c3 : l2.length < n
          · simp [c3]
          · by_cases c4 : ty = 2 ∧ nm.length ≤ 16
            · simp [c1, c2, c3, c4]
            · simp [c4]
    · intro y r hy
      rw [HPE2.out] at hy
      split at hy
      · cases hy
      · split at hy
        · cases hy
        · rename_i hx
          have hx2 : ty = 2 := by
            by_cases h2 : ty = 2
            · exact h2
            · exact absurd (.inr (fun h => h2 h.1)) hx
          injection hy with hy
          injection hy with h1 h2
          refine ⟨?_, h2⟩
          rw [← h1, hx2]
end Go.Proofs.YtljmklohgpaopaaGreatDoor

namespace Go.Proofs.YtljmklohgpaopaaGreatDoor
open Go.RowKit

theorem Tryz.infoValue : (Tryz.prog.info? 122).map (fun i => (i.zero, i.size, i.bytes)) = some (some (.agg #[.int .i64 0, .int .i64 0, .string ⟨#[]⟩]), 3, 32) := by kernel_rfl
theorem value_room {n m : Nat} (h : n + m ≤ 4398046511104) : ∀ old, old < n + m → Builtin.nextslicecap (n + m) old * 32 ≤ 281474976710656 := by
  intro old ho
  have := nextslicecap_le54 ho
  omega
def vc (v : Pl.Vl) : List Value := [.int .i64 (v.ty : Nat), .int .i64 (sig v.n), .string (tstr v.s)]
def vcs (row : List Pl.Vl) : List Value := row.flatMap vc
theorem vcs_append (a b : List Pl.Vl) : vcs (a ++ b) = vcs a ++ vcs b := by simp [vcs]
theorem vcs_one (v : Pl.Vl) : vcs [v] = vc v := by simp [vcs]
theorem vc_one (v : Pl.Vl) : ∀ u ∈ vc v, u.oneCell' = true := by
  intro u hu
  simp [vc] at hu
  rcases hu with rfl | rfl | rfl <;> rfl
/-- As Rd, but what was parsed counts where nothing was bad. -/
def Rd2 {α : Type} (o : Option (α × List UInt8)) (g : Nat) (bad : Bool) (x : α) (w w' : World) : Prop :=
  ∃ l' bad', Rdr w' g l' bad' ∧ bad' = (bad || o.isNone) ∧ (bad' = false → o = some (x, l')) ∧ Only (· = g) w w'
theorem Rd.two {α : Type} {o : Option (α × List UInt8)} {g : Nat} {bad : Bool} {x : α} {w w' : World} (h : Rd o g bad x w w') : Rd2 o g bad x w w' := by
  obtain ⟨l', bad', h1, h2, h3, h4⟩ := h
  refine ⟨l', bad', h1, h2, fun hb => ?_, h4⟩
  rw [hb] at h2
  cases ho : o with
  | none => rw [ho] at h2; simp at h2
  | some y =>
    obtain ⟨y, r⟩ := y
    obtain ⟨rfl, rfl⟩ := h3 y r ho
    rfl

/-- Where a loop of parses stands behind so many rounds. -/
def ManyAt {α : Type} (p : List UInt8 → Option (α × List UInt8)) (N : Nat) (l0 : List UInt8) (b0 : Bool) (r : Nat) (xs : List α) (lr : List UInt8) (br : Bool) : Prop :=
  (br = true ∧ (b0 = true ∨ Pl.pMany p N l0 = none)) ∨ (br = false ∧ b0 = false ∧ Pl.pMany p N l0 = (Pl.pMany p (N - r) lr).bind fun y => some (xs ++ y.1, y.2))
theorem ManyAt.start {α : Type} (p : List UInt8 → Option (α × List UInt8)) (N : Nat) (l0 : List UInt8) (b0 : Bool) : ManyAt p N l0 b0 0 [] l0 b0 := by
  cases b0
  · refine .inr ⟨rfl, rfl, ?_⟩
    cases h : Pl.pMany p N l0 with
    | none => simp [h]
    | some y => simp [h]
  · exact .inl ⟨rfl, .inl rfl⟩
theorem ManyAt.step {α : Type} {p : List UInt8 → Option (α × List UInt8)} {N : Nat} {l0 : List UInt8} {b0 : Bool} {r : Nat} {xs : List α} {lr l' : List UInt8} {bad' : Bool} {x : α}
    (h : ManyAt p N l0 b0 r xs lr false) (hr : r < N) (hb : bad' = (false || (p lr).isNone)) (ho : bad' = false → p lr = some (x, l')) : ManyAt p N l0 b0 (r + 1) (xs ++ [x]) l' bad' := by
  rcases h with ⟨h, _⟩ | ⟨_, h1, h2⟩
  · cases h
  · obtain ⟨k, hk⟩ : ∃ k, N - r = k + 1 := ⟨N - r - 1, by omega⟩
    rw [hk, Pl.pMany] at h2
    cases bad' with
    | true =>
      refine .inl ⟨rfl, .inr ?_⟩
      cases hp : p lr with
      | none => rw [h2, hp]; rfl
      | some y => rw [hp] at hb; simp at hb
    | false =>
      refine .inr ⟨rfl, h1, ?_⟩
      rw [h2, ho rfl, show N - (r + 1) = k by omega]
      simp only [Option.bind_some]
      cases Pl.pMany p k l' with
      | none => rfl
      | some y => simp
theorem ManyAt.done {α : Type} {p : List UInt8 → Option (α × List UInt8)} {N : Nat} {l0 : List UInt8} {b0 : Bool} {r : Nat} {xs : List α} {lr : List UInt8} {br : Bool}
    (h : ManyAt p N l0 b0 r xs lr br) (he : br = false → N ≤ r) : br = (b0 || (Pl.pMany p N l0).isNone) ∧ (br = false → Pl.pMany p N l0 = some (xs, lr)) := by
  rcases h with ⟨rfl, h⟩ | ⟨rfl, h1, h2⟩
  · refine ⟨?_, fun h => by cases h⟩
    rcases h with rfl | h
    · rfl
    · rw [h]; simp
  · have hz : N - r = 0 := by have := he rfl; omega
    rw [hz, Pl.pMany] at h2
    simp only [Option.bind_some, List.append_nil] at h2
    rw [h1, h2]
    exact ⟨rfl, fun _ => rfl⟩

theorem pRow_eq (l : List UInt8) : Pl.pRow l = if l.length < 1 ∨ ¬ (1 ≤ Pl.num (l.take 1) ∧ Pl.num (l.take 1) ≤ 4) then none else Pl.pMany Pl.pVal (Pl.num (l.take 1)) (l.drop 1) := by
  unfold Pl.pRow
  rw [tk_eq]
  by_cases h : l.length < 1
  · rw [if_pos h, if_pos (.inl h)]; rfl
  · rw [if_neg h]
    simp only [Option.bind_some]
    by_cases h1 : 1 ≤ Pl.num (l.take 1) ∧ Pl.num (l.take 1) ≤ 4
    · rw [if_pos h1, if_neg (by rintro (e | e) <;> contradiction)]
    · rw [if_neg h1, if_pos (.inr h1)]
theorem row_end {l lr : List UInt8} {N : Nat} {bad b1 okb br : Bool} {row : List Pl.Vl} {M : Option (List Pl.Vl × List UInt8)} (hpe : Pl.pRow l = if l.length < 1 ∨ ¬ (1 ≤ N ∧ N ≤ 4) then none else M)
    (hok : decide (1 ≤ N ∧ N ≤ 4) = okb) (hb1 : (bad || decide (l.length < 1) || !okb) = b1) (h1 : br = (b1 || M.isNone)) (h2 : br = false → M = some (row, lr)) :
    br = (bad || (Pl.pRow l).isNone) ∧ (br = false → Pl.pRow l = some (row, lr)) := by
  rw [hpe]
  subst hok hb1
  by_cases c1 : l.length < 1
  · rw [if_pos (.inl c1), h1]
    simp [c1]
  · by_cases c2 : 1 ≤ N ∧ N ≤ 4
    · rw [if_neg (by rintro (e | e) <;> contradiction)]
      refine ⟨?_, h2⟩
      rw [h1]
      simp [c1, c2]
    · rw [if_pos (.inr c2), h1]
      simp [c2]
def VlB (v : Pl.Vl) : Prop := v.ty < 256 ∧ v.n < 18446744073709551616 ∧ v.s.length ≤ 255
def RowPost (w : World) (g : Nat) (l : List UInt8) (bad : Bool) (e : Ending) (w' : World) : Prop :=
  ∃ v row, e = .returned v ∧ w'.ownsRow w.heap.size 122 3 v row.length (vcs row) ∧ row.length < 256 ∧ (∀ x ∈ row, VlB x) ∧ Rd2 (Pl.pRow l) g bad row w w'
set_option maxHeartbeats 2000000 in
theorem row_any (g : Nat) (l : List UInt8) (bad : Bool) (w : World) (h : Rdr w g l bad) :
    Calls Tryz.prog 191 #[.pointer (some ⟨g, 0, none⟩)] w (RowPost w g l bad) := by
  obtain ⟨i0, hi0, hz0, hz1, hz2⟩ := info_parts Tryz.infoValue
  have hlt := h.lt
  have hn := Pl.num_take_lt l 1
  have hpe := pRow_eq l
  obtain ⟨N, hN⟩ : ∃ N, Pl.num (l.take 1) = N := ⟨_, rfl⟩
  obtain ⟨l1, hl1⟩ : ∃ l1, l.drop 1 = l1 := ⟨_, rfl⟩
  have HNUM := Lib.hid (num_any g 1 l bad w h (by omega))
  rw [hN, hl1] at HNUM hpe
  rw [hN] at hn
  have hn' : N < 256 := by simpa using hn
  have HPE := Lib.hid hpe
  clear hpe hN hl1 h hn
  go_enter Tryz.func191, Tryz.ntmps191
  go_wp2_with fail
  refine HNUM.out.mono ?_
  rintro e w1 ⟨rfl, hR, hg⟩
  have hO := Lib.hid (Only.of_grown hg)
  have HR := Lib.hid hR
  clear hg hR HNUM
  obtain ⟨okb, hokb⟩ : ∃ okb, decide (1 ≤ N ∧ N ≤ 4) = okb := ⟨_, rfl⟩
  obtain ⟨b1, hb1⟩ : ∃ b1, (bad || decide (l.length < 1) || !okb) = b1 := ⟨_, rfl⟩
  have HMU := must_any g l1 _ okb w1 HR.out
  rw [hb1] at HMU
  have HMU := Lib.hid HMU
  have HOK := Lib.hid hokb
  have HB1 := Lib.hid hb1
  have hcase : ((1 : Int) ≤ (N : Int) ∧ decide ((1 : Int) ≤ (N : Int)) = true ∧ (N : Int) ≤ 4 ∧ decide ((N : Int) ≤ 4) = true ∧ okb = true) ∨ (¬ (1 : Int) ≤ (N : Int) ∧ decide ((1 : Int) ≤ (N : Int)) = false ∧ okb = false) ∨ ((1 : Int) ≤ (N : Int) ∧ decide ((1 : Int) ≤ (N : Int)) = true ∧ ¬ (N : Int) ≤ 4 ∧ decide ((N : Int) ≤ 4) = false ∧ okb = false) := by
    rw [← hokb]
    by_cases h1 : 1 ≤ N
    · by_cases h2 : N ≤ 4
      · exact .inl ⟨by omega, by simp; omega, by omega, by simp; omega, by simp [h1, h2]⟩
      · exact .inr (.inr ⟨by omega, by simp; omega, by omega, by simp; omega, by simp [h2]⟩)
    · exact .inr (.inl ⟨by omega, by simp; omega, by simp [h1]⟩)
  clear hokb hb1
  rcases hcase with ⟨h1, d1, h2, d2, rfl⟩ | ⟨h1, d1, rfl⟩ | ⟨h1, d1, h2, d2, rfl⟩
  all_goals go_wp2_with fail
  all_goals
    refine HMU.out.mono ?_
    rintro e w2 ⟨rfl, hR2, ho2⟩
    have HO2 := Lib.hid (hO.out.trans' ho2)
    have HR2 := Lib.hid hR2
    have hsz2 := HO2.out.size
    clear hR2 ho2 HMU hO HR
    go_wp2_with fail
    go_loopw [3, 4] (fun v n wr => ∃ (r : Nat) (ps : List Pl.Vl) (lr : List UInt8) (br : Bool), r ≤ N ∧ n = .int .i64 ((N - r : Nat) : Int) ∧ Hid (ps.length = r) ∧ wr.ownsRow w.heap.size 122 3 v r (vcs ps) ∧ Hid (∀ x ∈ ps, VlB x) ∧
        Rdr wr g lr br ∧ Hid (Only (· = g) w wr) ∧ Hid (ManyAt Pl.pVal N l1 b1 r ps lr br)) (fun _ n _ => (intOf n).toNat)
    case atStart => exact ⟨0, [], _, _, Nat.zero_le _, rfl, rfl, World.ownsRow_nil _ _ _ _, by intro x hx; simp at hx, HR2.out, HO2.out, ManyAt.start _ _ _ _⟩
    case round =>
      obtain ⟨r, ps, lr, br, hr, rfl, HPL, hown, HVB, hRr, HO, HAT⟩ := hrel
      obtain ⟨q, hq⟩ : ∃ q, N - r = q := ⟨_, rfl⟩
      rw [hq]
      have hq' : r + q = N := by omega
      have HQ := Lib.hid hq'
      have hrN : r ≤ N := hr
      have hqb : q < 256 := by omega
      clear hq hq'
      obtain ⟨A, cap, hrc, hrm, hrB, hrb, hrA⟩ := hRr
      have c1 := hrB.cell 1
      simp only [List.getElem?_cons_succ, List.getElem?_cons_zero] at c1
      have hRr : Hid (Rdr wr g lr br) := ⟨A, cap, hrc, hrm, hrB, hrb, hrA⟩
      clear hrc hrm hrB hrb hrA
      have hpl := HPL.out
      by_cases hq0 : 0 < q
      · have hq1 : (0 : Int) < (q : Int) := by omega
        cases br with
        | false =>
          have HV := Lib.hid (value_any g lr false wr hRr.out)
          have hbase : w.heap.size ≤ wr.heap.size := HO.out.size
          have h63 := Lib.hid (show r + 1 ≤ maxLen by simp only [maxLen]; omega)
          have hroom := Lib.hid (value_room (n := r) (m := 1) (by omega))
          clear hpl
          go_wp2_with fail
          refine HV.out.mono ?_
          rintro e w3 ⟨x, rfl, hxb, hrd⟩
          obtain ⟨l', bad', hR3, hbad', hok', ho3⟩ := hrd.two
          have HST := Lib.hid (HAT.out.step (by have := HQ.out; omega) hbad' hok')
          have hbase2 : w.heap.size ≤ w3.heap.size := Nat.le_trans hbase ho3.size
          have hbase3 := size_alloc_le hbase2 (.cells (vc x).toArray 122)
          have hown2 := Lib.hid ((hown.kept ho3.to_grown (by
            rcases hv : u3.ownBlock with _ | k
            · exact .inl rfl
            · right
              have := (hown.lt k hv).1
              intro e
              have := Option.some.inj e
              omega)).alloc (.cells (vc x).toArray 122))
          have hsrc2 := Lib.hid (Src.of_blk (Blk.new w3 122 (vc x)))
          have HO3 := Lib.hid ((HO.out.trans' ho3).alloc (.cells (vc x).toArray 122))
          have hR4 := Lib.hid (hR3.below (w' := w3.alloc (.cells (vc x).toArray 122)) ((Below.refl _ _).alloc (Nat.le_refl _) _))
          have HXB := Lib.hid hxb
          clear ho3 hR3 hown hrd hxb hbad' hok'
          unfold vlV
          go_wp2_with (at_builtin
                       refine wpList_append_src _ rfl (.tmp 26) (.tmp 29) 119 rfl w.heap.size 122 i0 (.agg #[.int .i64 0, .int .i64 0, .string ⟨#[]⟩]) 3 32 Tryz.underlying119 hi0 hz0 hz1 hz2 rfl (by decide) u3 r (vcs ps) rfl hown2.out (some ⟨w3.heap.size, 0, none⟩) 1 1 (vc x) rfl rfl hsrc2.out (vc_one x) h63.out hroom.out hbase3 ?_
                       intro v3 w4 hown3 hgrow3 hat3)
          have hq2 := HQ.out
          refine ⟨⟨r + 1, ps ++ [x], l', bad', by omega, ?_, ?_, ?_, ?_, ?_, ?_, HST.out⟩, ?_⟩
          · rw [show ((N - (r + 1) : Nat) : Int) = (q : Int) - 1 by omega]
          · have := HPL.out
            rw [Hid, List.length_append, this]; rfl
          · rw [vcs_append, vcs_one]; exact hown3
          · intro y hy
            rcases List.mem_append.1 hy with hy | hy
            · exact HVB.out y hy
            · simp at hy; subst hy; exact HXB.out
          · refine hR4.out.only (Only.mono (G := fun k => u3.ownBlock = some k ∨ w3.heap.size ≤ k) ⟨hgrow3.os, hgrow3.tape, hgrow3.output, hgrow3.size, fun k hk hn => hgrow3.block k hk (fun e => hn e.symm)⟩ (fun x _ hx => .inl hx)) (fun y hy hn => ?_)
            rcases hn with hn | hn
            · have := (hown2.out.lt y hn).1
              omega
            · have := hR4.out.lt
              simp at this
              omega
          · exact HO3.out.grown hgrow3 (fun k hk => .inr (hown2.out.lt k hk).1)
          · simp [intOf]; omega
        | true =>
          have HD := Lib.hid (row_end HPE.out HOK.out HB1.out (HAT.out.done (fun e => by cases e)).1 (HAT.out.done (fun e => by cases e)).2)
          clear HAT hpl
          go_wp2_with fail
          go_ret
          have hpl := HPL.out
          subst hpl
          exact ⟨_, ps, rfl, hown, by omega, HVB.out, lr, true, hRr.out, HD.out.1, HD.out.2, HO.out⟩
      · have hq1 : ¬ (0 : Int) < (q : Int) := by omega
        have hee : br = false → N ≤ r := fun e => by have := HQ.out; omega
        have HD := Lib.hid (row_end HPE.out HOK.out HB1.out (HAT.out.done hee).1 (HAT.out.done hee).2)
        clear HAT hpl hee
        go_wp2_with fail
        go_ret
        have hpl := HPL.out
        subst hpl
        exact ⟨_, ps, rfl, hown, by omega, HVB.out, lr, br, hRr.out, HD.out.1, HD.out.2, HO.out⟩
end Go.Proofs.YtljmklohgpaopaaGreatDoor
