/- Laws on memory that hold over any program: a block that is known whole; copy out of a string; bytes as values. errors.As by its contracts, at what the program hands it: nil, a Kind, a TableError; the targets TableError's and Kind's pointers. What all rows of this seat share: the variable of package errors that the rows list; a world that meets it. Plain facts on sums and checks: no program in sight. The walk of sums.Sum. The walks of the harness's lent and stays, of plain's text and Sum, of the reference's Sum and Bytes. -/
import Derived.WalkLawsBesides
import Derived.WalkSpells
import Derived.Laws.CopyOwn
import Derived.Maps.AppendAt
import Derived.Lib.Hide
import Derived.Test.YtljmklohgpaopaaDoorProg
import Derived.LaidEql
import Derived.Stop.Asserts
import Derived.RowKitTokens
import Derived.Test.YtljmklohgpaopaaDoorRows
import Derived.ProofKit
import Derived.OpenShut
import Derived.ShutString
import Derived.LaidLaws
import Derived.LaidHandle
import Derived.Stop.Joined
import Derived.Deep.DeepHandedRow
import Derived.WalkKit

namespace Go.Proofs.YtljmklohgpaopaaDoor
open Go.RowKit

/-- Bytes as the cells of a row. -/
def bv (l : List UInt8) : List Value := l.map fun c => Value.int .u8 (c.toNat : Int)
@[simp] theorem bv_length (l : List UInt8) : (bv l).length = l.length := by simp [bv]
theorem bv_append (l r : List UInt8) : bv (l ++ r) = bv l ++ bv r := by simp [bv]
theorem bv_one (l : List UInt8) : ∀ v ∈ bv l, v.oneCell' = true := by
  intro v hv
  obtain ⟨c, _, rfl⟩ := List.mem_map.1 hv
  rfl
theorem bv_get? (l : List UInt8) (i : Nat) (h : i < l.length) : (bv l)[i]? = some (.int .u8 (l[i].toNat : Int)) := by
  simp [bv, List.getElem?_eq_getElem h]

/-- Block g is just the cells cs of element type t, none frozen. -/
def Blk (w : World) (g : Nat) (t : TypeId) (cs : List Value) : Prop := w.heap[g]? = some (.cells cs.toArray t (0, 0))

section
variable {w w' : World} {g : Nat} {t : TypeId} {cs : List Value}
theorem Blk.lt (h : Blk w g t cs) : g < w.heap.size := by
  rcases Nat.lt_or_ge g w.heap.size with hlt | hge
  · exact hlt
  · unfold Blk at h; rw [Array.getElem?_eq_none hge] at h; cases h
theorem Blk.cell (h : Blk w g t cs) (i : Nat) : w.cell? ⟨g, i, none⟩ = cs[i]? := by
  rw [cell_of_row w g i cs.toArray t (0, 0) h]; simp
theorem Blk.frozen (h : Blk w g t cs) (i : Nat) : w.frozen? ⟨g, i, none⟩ = false := by
  unfold Blk at h
  simp [World.frozen?, h]
theorem Blk.new (w : World) (t : TypeId) (cs : List Value) : Blk (w.alloc (.cells cs.toArray t)) w.heap.size t cs := heap_alloc_new w _
theorem Blk.newAt (w : World) (t : TypeId) (cs : List Value) (n : Nat) (h : n = w.heap.size) : Blk (w.alloc (.cells cs.toArray t)) n t cs := by subst h; exact heap_alloc_new w _
theorem Blk.drew (h : Blk w g t cs) : Blk w.drew g t cs := h
theorem Blk.drewN (h : Blk w g t cs) (n : Nat) : Blk (w.drewN n) g t cs := h
theorem Blk.alloc (h : Blk w g t cs) (o : Obj) : Blk (w.alloc o) g t cs := (Below.heap_alloc w o g h.lt).trans h
theorem Blk.set_ (h : Blk w g t cs) (i : Nat) (u : Value) : Blk (w.setCell ⟨g, i, none⟩ u) g t (cs.set i u) := by
  unfold Blk at h ⊢
  simp [World.setCell, Array.getElem?_modify, h]
theorem Blk.far (h : Blk w g t cs) {p : Addr} (hp : g ≠ p.block) (u : Value) : Blk (w.setCell p u) g t cs := (Below.heap_setCell w p u g hp).trans h
theorem Blk.below {B : Nat} (h : Blk w g t cs) (hb : Below B w w') (hg : g < B) : Blk w' g t cs := (hb.block g hg).trans h
theorem Blk.grown {row : Option Nat} (h : Blk w g t cs) (hb : w.grownBy w' row) (hg : some g ≠ row) : Blk w' g t cs := (hb.block g h.lt hg).trans h
theorem Blk.setRow (h : Blk w g t cs) (cs' : List Value) : Blk (w.setRow g cs'.toArray) g t cs' := setRow_heap w g _ _ t _ h
theorem Blk.uniq {cs' : List Value} {t' : TypeId} (h : Blk w g t cs) (h' : Blk w g t' cs') : cs = cs' := by
  unfold Blk at h h'
  rw [h] at h'
  injection h' with h'
  injection h' with h' _
  simpa using h'
end

section
variable {a w w' : World} {row : Option Nat}
theorem only_trans {b : World} (h : a.grownBy w row) (k : w.grownBy b row) : a.grownBy b row :=
  ⟨k.os.trans h.os, k.tape.trans h.tape, k.output.trans h.output, Nat.le_trans h.size k.size, fun i hi hn => (k.block i (Nat.lt_of_lt_of_le hi h.size) hn).trans (h.block i hi hn)⟩
theorem only_drewN (h : a.grownBy w row) (n : Nat) : a.grownBy (w.drewN n) row := ⟨h.os, h.tape, h.output, h.size, h.block⟩
theorem only_drew (h : a.grownBy w row) : a.grownBy w.drew row := ⟨h.os, h.tape, h.output, h.size, h.block⟩
theorem only_alloc (h : a.grownBy w row) (o : Obj) : a.grownBy (w.alloc o) row :=
  ⟨h.os, h.tape, h.output, Nat.le_trans h.size (by simp), fun i hi hne => (Below.heap_alloc w o i (Nat.lt_of_lt_of_le hi h.size)).trans (h.block i hi hne)⟩
theorem only_setCell {g : Nat} (h : a.grownBy w (some g)) {p : Addr} (hp : p.block = g ∨ a.heap.size ≤ p.block) (u : Value) : a.grownBy (w.setCell p u) (some g) :=
  ⟨h.os, h.tape, h.output, by simpa [World.setCell] using h.size, fun i hi hne => (Below.heap_setCell w p u i (by
    rintro rfl
    rcases hp with hp | hp
    · exact hne (by rw [hp])
    · omega)).trans (h.block i hi hne)⟩
theorem only_of_below (h : Below a.heap.size a w) (row : Option Nat) : a.grownBy w row := ⟨h.os, h.tape, h.output, h.size, fun i hi _ => h.block i hi⟩
theorem below_of_only {B g : Nat} (h : w.grownBy w' (some g)) (hB : B ≤ g) (hs : B ≤ w.heap.size) : Below B w w' :=
  ⟨h.os, h.tape, h.output, h.size, fun k hk => h.block k (by omega) (by simp; omega)⟩
theorem below_drewN {B : Nat} (h : Below B a w) (n : Nat) : Below B a (w.drewN n) := ⟨h.os, h.tape, h.output, h.size, h.block⟩
end

theorem addr_add (b o j : Nat) : (⟨b, o, none⟩ : Addr).add j = ⟨b, o + j, none⟩ := by unfold Addr.add; split <;> simp_all
theorem setRow_alloc (w : World) (c c' : Array Value) (t : TypeId) : (w.alloc (.cells c t)).setRow w.heap.size c' = w.alloc (.cells c' t) := by
  unfold World.setRow World.alloc
  congr 1
  apply Array.ext_getElem?
  intro k
  simp only [Array.getElem?_modify, Array.getElem?_push]
  by_cases hk : k = w.heap.size
  · subst hk; simp
  · simp [hk, Ne.symm hk]

/-- copy(row, s) out of a string that fits. -/
theorem run_copy_str {P : Program} (w : World) (dT sT ty elem : TypeId) (g o dLen dCap : Nat) (s : ByteArray) (cur : List Value) (t : TypeId)
    (hu : P.underlying dT = some (.slice elem)) (hs : (P.info? elem).map (·.size) = some 1) (hg : Blk w g t cur) (hn : s.size ≤ dLen) (hfit : o + s.size ≤ cur.length) :
    (Builtin.copy_ #[dT, sT] ty #[.slice (some ⟨g, o, none⟩) dLen dCap, .string s]).run P w =
      .ok (goInt s.size) (w.setRow g (cur.take o ++ bv s.data.toList ++ cur.drop (o + s.size)).toArray) := by
  have hst := run_storeCells_at P g o t (bv s.data.toList) 0 cur.toArray w hg (by simpa using hfit) (bv_one _)
  cases hq : P.info? elem with
  | none => simp [hq] at hs
  | some i =>
    have hi : i.size = 1 := by simpa [hq] using hs
    have hmin : Nat.min s.size dLen = s.size := by simp [hn]
    have hb : List.take s.size (List.map (fun b : UInt8 => Value.int .u8 (b.toNat : Int)) s.data.toList) = bv s.data.toList :=
      List.take_of_length_le (by simp)
    have hsz : s.data.toList.length = s.size := rfl
    simp only [Nat.add_zero, bv_length, hsz] at hst
    simp [Builtin.copy_, run_underlying hu, Builtin.lenOf, Builtin.firstCells, sizeOf, typeInfo, hq, hmin]
    rw [hb, hst]
    simp [Result.andThen]

/-- string(b) of one byte that lies in a block of its own, just made. -/
theorem run_string_one {P : Program} (w : World) (src dst e t : TypeId) (x : Nat) (hs : P.underlying src = some (.slice e)) (he : P.underlying e = some (.int .u8)) (hd : P.underlying dst = some .string) :
    (convert src dst (.slice (some ⟨w.heap.size, 0, none⟩) 1 1)).run P (w.alloc (.cells #[.int .u8 ((x : Int) % 256)] t)) = .ok (.string ⟨#[UInt8.ofNat x]⟩) (w.alloc (.cells #[.int .u8 ((x : Int) % 256)] t)) :=
  run_convert_bytes_back (P := P) (w.alloc (.cells #[.int .u8 ((x : Int) % 256)] t)) src dst e ⟨w.heap.size, 0, none⟩ 1 [UInt8.ofNat x] hs he hd (by
    intro j hj
    obtain rfl : j = 0 := by simp at hj; omega
    rw [addr_add, World.cell?_alloc_new]
    simp)

end Go.Proofs.YtljmklohgpaopaaDoor

namespace Go.Proofs.YtljmklohgpaopaaDoor
open Go.RowKit Go.Extern.Stop Go.Stop Go.Extern

/-- What the one package-level variable of package errors reads as. -/
def GE (w : World) : Prop := w.cell? ⟨0, 0, none⟩ = some (.iface 185 (.agg #[.pointer (some ⟨1, 70, none⟩)]))

/-- errors.As(nil, target). -/
theorem as_nil (t : Value) (w : World) :
    Calls Tryd.prog 75 #[.nilIface, t] w fun e w' => e = .returned (.bool false) ∧ w = w' := by
  go_enter Tryd.func75, Tryd.ntmps75
  go_wp2
  go_ret
  exact ⟨rfl, rfl⟩

/-! ### closed facts on the model's entries for reflectlite -/
theorem Tryd.valueOfPP (t : Addr) (w : World) : (ReflectliteValue.unpack (.iface 140 (.pointer (some t)))).run Tryd.prog w
    = .ok (.agg #[.pointer (some ⟨1, 140, none⟩), .pointer (some ⟨w.heap.size, 0, none⟩), .int .u64 150]) (w.alloc (.cells #[.pointer (some t)] 140)) := by kernel_rfl
theorem Tryd.typePP (a : Addr) (w : World) : (ReflectliteValue.methodAny (ReflectliteValue.valueError "reflectlite.Value.Type" 0) (fun t _ _ _ => ReflectliteType.toType t) #[.agg #[.pointer (some ⟨1, 140, none⟩), .pointer (some a), .int .u64 150]]).run Tryd.prog w
    = .ok (.iface 185 (.agg #[.pointer (some ⟨1, 140, none⟩)])) w := by kernel_rfl
theorem Tryd.methodKind (h : Value) (w : World) : (Go.method 332 185 (.agg #[h]) "Kind").run Tryd.prog w = .ok (130, h) w := by kernel_rfl
theorem Tryd.kindPP (w : World) : ((ReflectliteType.abiMethod fun t => (fun a : Nat => Value.int IntKind.u8 (a : Int)) <$> Rtype.kind t) #[.pointer (some ⟨1, 140, none⟩)]).run Tryd.prog w = .ok (.int .u8 22) w := by kernel_rfl
theorem Tryd.kindP (w : World) : ((ReflectliteType.abiMethod fun t => (fun a : Nat => Value.int IntKind.u8 (a : Int)) <$> Rtype.kind t) #[.pointer (some ⟨1, 138, none⟩)]).run Tryd.prog w = .ok (.int .u8 22) w := by kernel_rfl
theorem rlm (z : Sem Value) (f : TypeId → Addr → Nat → Nat → Sem Value) (v : Value) :
    ReflectliteValue.method z f #[v] = (do match ← ReflectliteValue.parts v with | none => z | some (t, a, fl) => f t a fl (fl % 32)) := rfl
theorem Tryd.partsPP (a : Addr) (w : World) : (ReflectliteValue.parts (.agg #[.pointer (some ⟨1, 140, none⟩), .pointer (some a), .int .u64 150])).run Tryd.prog w = .ok (some (140, a, 150)) w := by kernel_rfl
theorem Tryd.isNilPP (a p : Addr) (W : World) (ha : W.cell? a = some (.pointer (some p))) :
    (ReflectliteValue.method (ReflectliteValue.valueError "reflectlite.Value.IsNil" 0) ReflectliteValue.isNil #[.agg #[.pointer (some ⟨1, 140, none⟩), .pointer (some a), .int .u64 150]]).run Tryd.prog W = .ok (.bool false) W := by
  rw [rlm]
  simp only [Sem.run_bind, Tryd.partsPP, Result.andThen]
  simp [ReflectliteValue.isNil, loadVar, isAgg, underlying, Tryd.underlying140, ha, Result.andThen]
theorem Tryd.methodElem (h : Value) (w : World) : (Go.method 332 185 (.agg #[h]) "Elem").run Tryd.prog w = .ok (146, .agg #[h]) w := by kernel_rfl
theorem Tryd.methodImplements (h : Value) (w : World) : (Go.method 332 185 (.agg #[h]) "Implements").run Tryd.prog w = .ok (147, .agg #[h]) w := by kernel_rfl
theorem Tryd.methodAssignableTo (h : Value) (w : World) : (Go.method 332 185 (.agg #[h]) "AssignableTo").run Tryd.prog w = .ok (144, .agg #[h]) w := by kernel_rfl
theorem Tryd.elemPP (w : World) : (ReflectliteType.method ReflectliteType.elem #[.agg #[.pointer (some ⟨1, 140, none⟩)]]).run Tryd.prog w = .ok (.iface 185 (.agg #[.pointer (some ⟨1, 138, none⟩)])) w := by kernel_rfl
theorem Tryd.implementsP (w : World) : (ReflectliteType.relation "Implements" ReflectliteType.implements_ #[.agg #[.pointer (some ⟨1, 138, none⟩)], .iface 185 (.agg #[.pointer (some ⟨1, 70, none⟩)])]).run Tryd.prog w = .ok (.bool true) w := by kernel_rfl
theorem Tryd.typeOfP (v : Value) (w : World) : (ReflectliteType.typeOf #[.iface 138 v]).run Tryd.prog w = .ok (.iface 185 (.agg #[.pointer (some ⟨1, 138, none⟩)])) w := by kernel_rfl
theorem Tryd.typeOfK (v : Value) (w : World) : (ReflectliteType.typeOf #[.iface 25 v]).run Tryd.prog w = .ok (.iface 185 (.agg #[.pointer (some ⟨1, 25, none⟩)])) w := by kernel_rfl
theorem Tryd.assignablePP (w : World) : (ReflectliteType.relation "AssignableTo" ReflectliteType.assignableTo #[.agg #[.pointer (some ⟨1, 138, none⟩)], .iface 185 (.agg #[.pointer (some ⟨1, 138, none⟩)])]).run Tryd.prog w = .ok (.bool true) w := by kernel_rfl
theorem Tryd.assignableKP (w : World) : (ReflectliteType.relation "AssignableTo" ReflectliteType.assignableTo #[.agg #[.pointer (some ⟨1, 25, none⟩)], .iface 185 (.agg #[.pointer (some ⟨1, 138, none⟩)])]).run Tryd.prog w = .ok (.bool false) w := by kernel_rfl
theorem Tryd.assignableKK (w : World) : (ReflectliteType.relation "AssignableTo" ReflectliteType.assignableTo #[.agg #[.pointer (some ⟨1, 25, none⟩)], .iface 185 (.agg #[.pointer (some ⟨1, 25, none⟩)])]).run Tryd.prog w = .ok (.bool true) w := by kernel_rfl

/-! the target *Kind -/
theorem Tryd.valueOfPK (t : Addr) (w : World) : (ReflectliteValue.unpack (.iface 143 (.pointer (some t)))).run Tryd.prog w
    = .ok (.agg #[.pointer (some ⟨1, 143, none⟩), .pointer (some ⟨w.heap.size, 0, none⟩), .int .u64 150]) (w.alloc (.cells #[.pointer (some t)] 143)) := by kernel_rfl
theorem Tryd.typePK (a : Addr) (w : World) : (ReflectliteValue.methodAny (ReflectliteValue.valueError "reflectlite.Value.Type" 0) (fun t _ _ _ => ReflectliteType.toType t) #[.agg #[.pointer (some ⟨1, 143, none⟩), .pointer (some a), .int .u64 150]]).run Tryd.prog w
    = .ok (.iface 185 (.agg #[.pointer (some ⟨1, 143, none⟩)])) w := by kernel_rfl
theorem Tryd.kindPK (w : World) : ((ReflectliteType.abiMethod fun t => (fun a : Nat => Value.int IntKind.u8 (a : Int)) <$> Rtype.kind t) #[.pointer (some ⟨1, 143, none⟩)]).run Tryd.prog w = .ok (.int .u8 22) w := by kernel_rfl
theorem Tryd.kindK (w : World) : ((ReflectliteType.abiMethod fun t => (fun a : Nat => Value.int IntKind.u8 (a : Int)) <$> Rtype.kind t) #[.pointer (some ⟨1, 25, none⟩)]).run Tryd.prog w = .ok (.int .u8 2) w := by kernel_rfl
theorem Tryd.partsPK (a : Addr) (w : World) : (ReflectliteValue.parts (.agg #[.pointer (some ⟨1, 143, none⟩), .pointer (some a), .int .u64 150])).run Tryd.prog w = .ok (some (143, a, 150)) w := by kernel_rfl
theorem Tryd.isNilPK (a p : Addr) (W : World) (ha : W.cell? a = some (.pointer (some p))) :
    (ReflectliteValue.method (ReflectliteValue.valueError "reflectlite.Value.IsNil" 0) ReflectliteValue.isNil #[.agg #[.pointer (some ⟨1, 143, none⟩), .pointer (some a), .int .u64 150]]).run Tryd.prog W = .ok (.bool false) W := by
  rw [rlm]
  simp only [Sem.run_bind, Tryd.partsPK, Result.andThen]
  simp [ReflectliteValue.isNil, loadVar, isAgg, underlying, Tryd.underlying143, ha, Result.andThen]
theorem Tryd.elemPK (w : World) : (ReflectliteType.method ReflectliteType.elem #[.agg #[.pointer (some ⟨1, 143, none⟩)]]).run Tryd.prog w = .ok (.iface 185 (.agg #[.pointer (some ⟨1, 25, none⟩)])) w := by kernel_rfl
theorem Tryd.implementsK (w : World) : (ReflectliteType.relation "Implements" ReflectliteType.implements_ #[.agg #[.pointer (some ⟨1, 25, none⟩)], .iface 185 (.agg #[.pointer (some ⟨1, 70, none⟩)])]).run Tryd.prog w = .ok (.bool true) w := by kernel_rfl
theorem Tryd.valueOfP (e : Addr) (w : World) : (ReflectliteValue.unpack (.iface 138 (.pointer (some e)))).run Tryd.prog w
    = .ok (.agg #[.pointer (some ⟨1, 138, none⟩), .pointer (some ⟨w.heap.size, 0, none⟩), .int .u64 150]) (w.alloc (.cells #[.pointer (some e)] 138)) := by kernel_rfl
theorem Tryd.valueOfK (k : Int) (w : World) : (ReflectliteValue.unpack (.iface 25 (.int .i64 k))).run Tryd.prog w
    = .ok (.agg #[.pointer (some ⟨1, 25, none⟩), .pointer (some ⟨w.heap.size, 0, none⟩), .int .u64 130]) (w.alloc (.cells #[.int .i64 k] 25)) := by kernel_rfl
end Go.Proofs.YtljmklohgpaopaaDoor

namespace Go.Proofs.YtljmklohgpaopaaDoor
open Go.ChangeShapes Go.WideShapes Go.ChangeAt Go.RowKit
set_option linter.unusedVariables false

theorem own : ownKnob Tryd.prog.godebug = none := by kernel_rfl
theorem laidOut : laidOutB Tryd.prog = true := by kernel_rfl
theorem Tryd.et : Tryd.prog.globalNamed "errors.errorType" = some 0 := by kernel_rfl
theorem Tryd.rt : (Tryd.prog.cutTypes.find? (·.1 == "internal/reflectlite.rtype")).map (·.2) = some 185 := by kernel_rfl
theorem Tryd.oneRow : ((List.range 232).filter fun t => Tryd.prog.rowNamed t [101, 114, 114, 111, 114]) = [70] := by kernel_rfl
theorem Tryd.size : Tryd.prog.types.size = 232 := by kernel_rfl

theorem ge_of_handles {l : List (String × DataW Unit)} {W : World} (h : handlesMet Tryd.prog l W) (hl : ("errors.errorType", Rows.laid_errors_errorType) ∈ l) : GE W := by
  obtain ⟨name, u, ty, e1, e2, e3, e4, e5⟩ := h _ hl
  have en : name = [101, 114, 114, 111, 114] := (Option.some.inj e1).symm
  subst en
  obtain rfl := Option.some.inj (Tryd.rt.symm.trans e2)
  have hm : ty ∈ (List.range 232).filter fun t => Tryd.prog.rowNamed t [101, 114, 114, 111, 114] := List.mem_filter.2 ⟨List.mem_range.2 (by rw [← Tryd.size]; exact e3), e4⟩
  rw [Tryd.oneRow] at hm
  obtain rfl := List.mem_singleton.1 hm
  have hh : typeHandle Tryd.prog 70 = .pointer (some ⟨1, 70, none⟩) := by kernel_rfl
  rw [hh] at e5
  have hc := World.var?_cell Tryd.et e5 0
  unfold GE
  simpa using hc
theorem ge_of_laid {W : World} (h : laidMetH Tryd.prog [("errors.errorType", Rows.laid_errors_errorType)] W) : GE W := by
  have h' : laidMet Tryd.prog [] W ∧ handlesMet Tryd.prog [("errors.errorType", Rows.laid_errors_errorType)] W := h
  exact ge_of_handles h'.2 (List.mem_singleton.2 rfl)

/-- A world that meets the condition: the settled one, the variable's cell laid. -/
noncomputable def laidWorld (os : Os) : World :=
  let w0 := World.holding Tryd.prog os ⟨#[], #[], []⟩
  { w0 with heap := w0.heap.modify 0 fun
      | .cells _ t frozen => .cells #[.iface 185 (.agg #[.pointer (some ⟨1, 70, none⟩)])] t frozen
      | o => o }
theorem laidWorld_met (os : Os) (args : Array Value) : laidMetH Tryd.prog [("errors.errorType", Rows.laid_errors_errorType)] ((laidWorld os).forCall (fun _ _ => 0) ⟨#[], args, []⟩).memory :=
  laidMetH_of_parts (laidMet_nil _ _) (by kernel_rfl)
end Go.Proofs.YtljmklohgpaopaaDoor

namespace Go.Proofs.YtljmklohgpaopaaDoor
namespace Pl

def sumStep (h : Nat) (c : UInt8) : Nat := (h * 33 + c.toNat + 1) % 4294967291
def sumN (l : List UInt8) : Nat := l.foldl sumStep 5381

theorem sumStep_lt (h : Nat) (c : UInt8) : sumStep h c < 4294967291 := Nat.mod_lt _ (by decide)
theorem foldl_lt (l : List UInt8) : ∀ h, h < 4294967291 → l.foldl sumStep h < 4294967291 := by
  induction l with
  | nil => intro h hh; exact hh
  | cons c r ih => intro h _; exact ih _ (sumStep_lt h c)
theorem sumN_lt (l : List UInt8) : sumN l < 4294967291 := foldl_lt l _ (by decide)
theorem sumN_snoc (l : List UInt8) (c : UInt8) : sumN (l ++ [c]) = sumStep (sumN l) c := by simp [sumN]

def bitStep (v : Nat) : Nat := if v % 2 = 1 then v / 2 ^^^ 3988292384 else v / 2
def bitN : Nat → Nat → Nat
  | 0, v => v
  | n + 1, v => bitStep (bitN n v)
def byOne (v : Nat) : Nat := bitN 8 v
theorem bitStep_lt {v : Nat} (h : v < 4294967296) : bitStep v < 4294967296 := by
  unfold bitStep
  split
  · exact Nat.xor_lt_two_pow (n := 32) (by omega) (by decide)
  · omega
theorem bitN_lt {v : Nat} (h : v < 4294967296) (n : Nat) : bitN n v < 4294967296 := by
  induction n with
  | zero => exact h
  | succ n ih => exact bitStep_lt ih
def checkStep (v : Nat) (c : UInt8) : Nat := byOne (v ^^^ c.toNat)
def checkN (l : List UInt8) : Nat := l.foldl checkStep 4294967295
theorem checkStep_lt {v : Nat} (h : v < 4294967296) (c : UInt8) : checkStep v c < 4294967296 :=
  bitN_lt (Nat.xor_lt_two_pow (n := 32) h (by have := c.toNat_lt; omega)) 8
theorem checkN_snoc (l : List UInt8) (c : UInt8) : checkN (l ++ [c]) = checkStep (checkN l) c := by simp [checkN]
theorem check_foldl_lt (l : List UInt8) : ∀ h, h < 4294967296 → l.foldl checkStep h < 4294967296 := by
  induction l with
  | nil => intro h hh; exact hh
  | cons c r ih => intro h hh; exact ih _ (checkStep_lt hh c)
theorem checkN_lt (l : List UInt8) : checkN l < 4294967296 := check_foldl_lt l _ (by decide)

/-- A number in so many bytes, the highest first. -/
def be : Nat → Nat → List UInt8
  | 0, _ => []
  | k + 1, v => UInt8.ofNat (v / 256 ^ k) :: be k v
theorem be_length (k v : Nat) : (be k v).length = k := by induction k with | zero => rfl | succ k ih => simp [be, ih]
def hashText (n : Nat) : List UInt8 := be 4 n
theorem hashText_eq (n : Nat) : hashText n = [UInt8.ofNat (n / 16777216), UInt8.ofNat (n / 65536), UInt8.ofNat (n / 256), UInt8.ofNat n] := by
  simp [hashText, be]

end Pl
end Go.Proofs.YtljmklohgpaopaaDoor

namespace Go.Proofs.YtljmklohgpaopaaDoor
open Go.RowKit

/-- The slice value leads to these bytes (the first 'len' of its cells). -/
def BytesAt (w : World) (A : Option Addr) (l : List UInt8) : Prop :=
  l = [] ∨ ∃ b off, A = some ⟨b, off, none⟩ ∧ ∀ i, (h : i < l.length) → w.cell? ⟨b, off + i, none⟩ = some (.int .u8 (l[i].toNat : Int))

theorem take_snoc (l : List UInt8) (k : Nat) (h : k < l.length) : l.take (k + 1) = l.take k ++ [l[k]] := by
  rw [List.take_succ_eq_append_getElem h]

theorem BytesAt.at_ {w : World} {A : Option Addr} {l : List UInt8} (h : BytesAt w A l) (k : Nat) (hk : k < l.length) :
    ∃ b off, A = some ⟨b, off, none⟩ ∧ w.cell? ⟨b, off + k, none⟩ = some (.int .u8 (l[k].toNat : Int)) := by
  rcases h with rfl | ⟨b, off, rfl, h⟩
  · simp at hk
  · exact ⟨b, off, rfl, h k hk⟩
theorem BytesAt.lt {w : World} {b off : Nat} {l : List UInt8} (h : BytesAt w (some ⟨b, off, none⟩) l) (hl : l ≠ []) : b < w.heap.size := by
  rcases h with rfl | ⟨b', off', e, h⟩
  · exact absurd rfl hl
  · cases e
    exact World.block_lt_of_cell? _ _ (h 0 (List.length_pos_iff.2 hl))

/-- A hash as the program has it: the four bytes of a number. -/
def hashVal (n : Nat) : Value := .agg #[.int .u8 ((n : Int) / 16777216), .int .u8 ((n : Int) / 65536 % 256), .int .u8 ((n : Int) / 256 % 256), .int .u8 ((n : Int) % 256)]

set_option maxHeartbeats 400000 in
theorem sum_any (A : Option Addr) (cap : Nat) (l : List UInt8) (w : World) (hb : BytesAt w A l) (hm : l.length ≤ 9223372036854775807) :
    Calls Tryd.prog 105 #[.slice A l.length cap] w fun e w' => e = .returned (hashVal (Pl.sumN l)) ∧ Below w.heap.size w w' := by
  go_enter Tryd.func105, Tryd.ntmps105
  go_wp2
  go_loop [3, 8] (fun h i => ∃ k : Nat, k ≤ l.length ∧ i = .int .i64 k ∧ h = .int .u64 (Pl.sumN (l.take k))) (fun _ i => l.length - (intOf i).toNat)
  case atStart => exact ⟨0, Nat.zero_le _, rfl, rfl⟩
  case round =>
    obtain ⟨k, hk, rfl, rfl⟩ := hrel
    have hlt := Pl.sumN_lt (l.take k)
    by_cases hkl : k < l.length
    · obtain ⟨b, off, rfl, hc⟩ := hb.at_ k hkl
      have hbl := World.block_lt_of_cell? _ _ hc
      have hcl : (l[k].toNat : Int) < 256 := by have := l[k].toNat_lt; omega
      go_wp2
      go_round
      case rel =>
        refine ⟨k + 1, by omega, by go_num, ?_⟩
        rw [take_snoc l k hkl, Pl.sumN_snoc]
        simp [Pl.sumStep]
      case measure => simp [intOf]; omega
    · have hkk : k = l.length := by omega
      subst hkk
      rw [List.take_length] at hlt
      simp only [List.take_length]
      go_wp2
      refine bodyPost_ret (v := hashVal (Pl.sumN l)) (by simp [results, Tryd.results105, go_sem, hashVal]) rfl ⟨rfl, ?_⟩
      exact (Below.refl _ _).alloc (Nat.le_refl _) _
end Go.Proofs.YtljmklohgpaopaaDoor

namespace Go.Proofs.YtljmklohgpaopaaDoor
open Go.RowKit

theorem Tryd.infoByte : (Tryd.prog.info? 5).map (fun i => (i.zero, i.size, i.bytes)) = some (some (.int .u8 0), 1, 1) := by kernel_rfl
theorem Tryd.sizeByte : (Tryd.prog.info? 5).map (·.size) = some 1 := by kernel_rfl

def zrow (n : Nat) : List Value := List.replicate n (.int .u8 0)
theorem madeCells_one (v : Value) (n : Nat) : madeCells #[v] n = (List.replicate n v).toArray := by
  apply Array.ext
  · simp [madeCells]
  · intro i h1 h2
    simp [madeCells, Nat.mod_one]
theorem make_bytes (x : Int) (n : Nat) (hx : x = n) (hn : n ≤ 281474976710656) (w : World) :
    (Instr.makeSlice 23 (.int .i64 x) (.int .i64 x)).run Tryd.prog w = .ok (.slice (some ⟨w.heap.size, 0, none⟩) n n) (w.alloc (.cells (zrow n).toArray 5)) := by
  subst hx
  obtain ⟨i, hi, hz0, hz1, hz2⟩ := info_parts Tryd.infoByte
  have h := run_make (P := Tryd.prog) w 23 5 i (.int .u8 0) Tryd.underlying23 hi hz0 .i64 .i64 n n (by omega) (Int.le_refl _) (by rw [hz2]; omega) (by omega)
  rw [h]
  simp [hz1, Value.cells, madeCells_one, zrow]

def lrow (s : ByteArray) : List Value := bv s.data.toList ++ [.int .u8 0, .int .u8 0]
def lentRow (l : List UInt8) : List Value := bv (l ++ [77, 78])

set_option maxHeartbeats 400000 in
theorem lent_any (s : ByteArray) (w : World) (hm : s.size ≤ 140737488351232) :
    Calls Tryd.prog 7 #[.string s] w fun e w' => e = .returned (.slice (some ⟨w.heap.size, 0, none⟩) s.size (s.size + 2)) ∧ w' = w.alloc (.cells (lentRow s.data.toList).toArray 5) := by
  have hmk := make_bytes ((s.size : Int) + 2) (s.size + 2) (by omega) (by omega)
  have hs : s.data.toList.length = s.size := rfl
  have hcp := run_copy_str (P := Tryd.prog) (w.alloc (.cells (zrow (s.size + 2)).toArray 5)) 23 9 3 5 w.heap.size 0 (s.size + 2) (s.size + 2) s (zrow (s.size + 2)) 5 Tryd.underlying23 Tryd.sizeByte (Blk.new _ _ _) (by omega) (by simp [zrow])
  have he : (List.take 0 (zrow (s.size + 2)) ++ bv s.data.toList ++ List.drop (0 + s.size) (zrow (s.size + 2))) = lrow s := by
    simp only [zrow, lrow, List.drop_replicate, List.take_zero, List.nil_append]
    rw [show s.size + 2 - (0 + s.size) = 2 by omega]
    rfl
  rw [he, setRow_alloc] at hcp
  have e1 : lrow s = bv s.data.toList ++ [.int .u8 0, .int .u8 0] := rfl
  have e2 : (bv s.data.toList).length = s.size := by simp
  have e3 : lentRow s.data.toList = bv s.data.toList ++ [.int .u8 77, .int .u8 78] := by simp [lentRow, bv]
  have hfin : ((lrow s).set s.size (.int .u8 77)).set (s.size + 1) (.int .u8 78) = lentRow s.data.toList := by
    rw [e1, e3]
    generalize bv s.data.toList = L at e2
    simp [← e2, List.set_append_right]
  have hc0 : (lrow s)[s.size]? = some (.int .u8 0) := by rw [e1, List.getElem?_append_right (by omega), e2]; simp
  have hc1 : (lrow s)[s.size + 1]? = some (.int .u8 0) := by rw [e1, List.getElem?_append_right (by omega), e2]; simp
  have HF := Lib.hid hfin
  clear he hs hfin e1 e2 e3
  go_enter Tryd.func7, Tryd.ntmps7
  go_wp2
  go_ret
  exact ⟨rfl, by rw [HF.out]⟩

def str (l : List UInt8) : Value := .string ⟨l.toArray⟩

theorem u8_ofNat (x : Nat) (n : Nat) (h : (x : Int) % 256 = n % 256) : ((UInt8.ofNat x).toNat : Int) = (n : Int) % 256 := by
  rw [← h]; simp

set_option maxHeartbeats 400000 in
theorem refBytes_any (v n : Nat) (w : World) (hv : v < 18446744073709551616) (hn : n ≤ 8) :
    Calls Tryd.prog 28 #[.int .u64 v, .int .i64 n] w fun e w' => e = .returned (.string ⟨(Pl.be n v).toArray⟩) ∧ Below w.heap.size w w' := by
  have hmx : Hid (v < 18446744073709551616) := hv
  clear hv
  go_enter Tryd.func28, Tryd.ntmps28
  go_wp2
  go_loopw [0, 5, 6] (fun x s i wr => ∃ k y : Nat, k ≤ n ∧ i = .int .i64 k ∧ Hid (v / 256 ^ k = y) ∧ x = .int .u64 (y : Int) ∧ s = .string ⟨(Pl.be k v).toArray⟩ ∧ Below w.heap.size w wr) (fun _ _ i _ => n - (intOf i).toNat)
  case atStart => exact ⟨0, v, by omega, rfl, by simp [Hid], rfl, rfl, Below.refl _ _⟩
  case round =>
    obtain ⟨k, y, hk, rfl, HY, rfl, rfl, hbel⟩ := hrel
    by_cases hkn : k < n
    · have hcv := run_string_one (P := Tryd.prog) wr 23 9 5 5 y Tryd.underlying23 Tryd.underlying5 Tryd.underlying9
      have hlen : (Pl.be k v).length ≤ 8 := by rw [Pl.be_length]; omega
      have hyv : y ≤ v := by rw [← HY.out]; exact Nat.div_le_self _ _
      have hwr : Hid (IntKind.u64.wrap ((y : Int) / 256) = ((y / 256 : Nat) : Int)) := by
        have := hmx.out
        exact IntWalk.u64_in _ (by omega)
      go_wp2
      exact ⟨⟨k + 1, y / 256, by omega, by go_num, by rw [Hid, Nat.pow_succ, ← Nat.div_div_eq_div_mul, HY.out], by rw [hwr.out], by rw [Pl.be, HY.out]; rfl, hbel.alloc hbel.size _⟩, by simp [intOf]; omega⟩
    · obtain rfl : k = n := by omega
      go_wp2
      go_ret
      exact ⟨rfl, hbel⟩

set_option maxHeartbeats 400000 in
theorem refSum_any (s : ByteArray) (w : World) (hm : s.size ≤ 9223372036854775807) :
    Calls Tryd.prog 29 #[.string s] w fun e w' => e = .returned (.string ⟨(Pl.hashText (Pl.sumN s.data.toList)).toArray⟩) ∧ Below w.heap.size w w' := by
  go_enter Tryd.func29, Tryd.ntmps29
  go_wp2
  go_loop [3, 4] (fun h i => ∃ k : Nat, k ≤ s.size ∧ i = .int .i64 k ∧ h = .int .u64 (Pl.sumN (s.data.toList.take k))) (fun _ i => s.size - (intOf i).toNat)
  case atStart => exact ⟨0, Nat.zero_le _, rfl, rfl⟩
  case round =>
    obtain ⟨k, hk, rfl, rfl⟩ := hrel
    have hlt := Pl.sumN_lt (s.data.toList.take k)
    by_cases hkl : k < s.size
    · obtain ⟨c, hc⟩ : ∃ c, s[k] = c := ⟨_, rfl⟩
      have HC : Hid (s.data.toList[k]'hkl = c) := hc
      have hcl : (c.toNat : Int) < 256 := by have := c.toNat_lt; omega
      go_wp2
      go_round
      case rel =>
        refine ⟨k + 1, by omega, by go_num, ?_⟩
        rw [take_snoc _ k hkl, Pl.sumN_snoc, HC.out]
        simp [Pl.sumStep]
        omega
      case measure => simp [intOf]; omega
    · have hkk : k = s.data.toList.length := by show k = s.size; omega
      rw [show s.data.toList.take k = s.data.toList by rw [hkk, List.take_length]] at hlt ⊢
      clear hkk
      go_wp2_with fail
      refine (refBytes_any _ 4 _ (by omega) (by omega)).mono ?_
      rintro e w1 ⟨rfl, hb1⟩
      go_wp2
      go_ret
      exact ⟨rfl, hb1⟩

theorem getb (l : List UInt8) (i : Nat) (h : i < l.length) : (bv l)[i]? = some (.int .u8 (l[i].toNat : Int)) := bv_get? l i h

set_option maxHeartbeats 400000 in
set_option maxRecDepth 100000 in
/-- A slice that 'lent' made: block g holds the text and the two bytes behind it. -/
theorem stays_any (g : Nat) (s : ByteArray) (w : World) (hm : s.size ≤ 140737488351232) (hb : Blk w g 5 (lentRow s.data.toList)) :
    Calls Tryd.prog 10 #[.slice (some ⟨g, 0, none⟩) s.size (s.size + 2), .string s] w fun e w' => e = .returned (.bool true) ∧ w.grownBy w' (some g) ∧ ∃ cs, cs.length = s.size + 2 ∧ Blk w' g 5 cs := by
  have hlen : (lentRow s.data.toList).length = s.size + 2 := by simp [lentRow]
  have hget : ∀ i, (h : i < s.data.toList.length) → w.cell? ⟨g, i, none⟩ = some (.int .u8 (s.data.toList[i].toNat : Int)) := by
    intro i h
    rw [hb.cell, lentRow, bv_append, List.getElem?_append_left (by simpa using h), getb _ i h]
  have hcv := run_convert_bytes_back (P := Tryd.prog) w 23 9 5 ⟨g, 0, none⟩ (s.size + 2) s.data.toList Tryd.underlying23 Tryd.underlying5 Tryd.underlying9
    (fun j hj => by rw [addr_add, Nat.zero_add]; exact hget j hj)
  have hs1 : s.data.toList.length = s.size := rfl
  have hs2 : (⟨s.data.toList.toArray⟩ : ByteArray) = s := rfl
  rw [hs1, hs2] at hcv
  have h77 : w.cell? ⟨g, s.size, none⟩ = some (.int .u8 77) := by
    rw [hb.cell, lentRow, bv_append, List.getElem?_append_right (by simp)]; simp [bv]
  have h78 : w.cell? ⟨g, s.size + 1, none⟩ = some (.int .u8 78) := by
    rw [hb.cell, lentRow, bv_append, List.getElem?_append_right (by simp)]; simp [bv]
  clear hs1 hs2 hget
  have HB := Lib.hid hb
  clear hb
  have HL := Lib.hid hlen
  clear hlen
  go_enter Tryd.func10, Tryd.ntmps10
  go_wp2
  go_loopw [7] (fun i wr => ∃ k cs, k ≤ s.size + 2 ∧ i = .int .i64 (k : Nat) ∧ Hid (cs.length = s.size + 2) ∧ Hid (Blk wr g 5 cs) ∧ w.grownBy wr (some g)) (fun i _ => s.size + 2 - (intOf i).toNat)
  case atStart => exact ⟨0, _, by omega, rfl, HL.out, HB.out, World.grownBy.refl w _⟩
  case round =>
    obtain ⟨k, cs, hk, rfl, HC, HB1, hon⟩ := hrel
    by_cases hkn : k < s.size + 2
    · have hc : wr.cell? ⟨g, k, none⟩ = some (cs[k]'(by rw [HC.out]; exact hkn)) := by rw [HB1.out.cell, List.getElem?_eq_getElem]
      have hf := HB1.out.frozen k
      go_wp2
      exact ⟨⟨k + 1, _, by omega, by go_num, by rw [Hid, List.length_set]; exact HC.out, HB1.out.set_ k _, only_setCell hon (.inl rfl) _⟩, by simp [intOf]; omega⟩
    · go_wp2
      go_ret
      exact ⟨rfl, hon, cs, HC.out, HB1.out⟩
end Go.Proofs.YtljmklohgpaopaaDoor
