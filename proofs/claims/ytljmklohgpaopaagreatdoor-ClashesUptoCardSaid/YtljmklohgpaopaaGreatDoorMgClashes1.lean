/- Laws on memory that hold over any program: a block that is known whole; copy out of a string; bytes as values. errors.As by its contracts, at what the program hands it: nil, a Kind, a TableError; the targets TableError's and Kind's pointers. What all rows of this seat share: the variable of package errors that the rows list; a world that meets it. Plain facts on sums and checks: no program in sight. The walk of sums.Sum. The walks of the harness's lent and stays, of plain's text and Sum, of the reference's Sum and Bytes. Laws over any program on slices that the call owns: append from whatever source, with Go's own bound on room. -/
import Derived.WalkLawsBesides
import Derived.WalkSpells
import Derived.Laws.CopyOwn
import Derived.Maps.AppendAt
import Derived.Lib.Hide
import Derived.Test.YtljmklohgpaopaaGreatDoorProg
import Derived.LaidEql
import Derived.Stop.Asserts
import Derived.RowKitTokens
import Derived.Test.YtljmklohgpaopaaGreatDoorRows
import Derived.ProofKit
import Derived.OpenShut
import Derived.ShutString
import Derived.LaidLaws
import Derived.LaidHandle
import Derived.Stop.Joined
import Derived.Deep.DeepHandedRow
import Derived.WalkKit
import Derived.Deep.AppendLies
import Derived.RegionTactic
import Derived.OwnWalk
set_option linter.unusedVariables false
set_option linter.unusedSimpArgs false

namespace Go.Proofs.YtljmklohgpaopaaGreatDoor
open Go.RowKit

/-- Bytes as the cells of a row. -/
def bv (l : List UInt8) : List Value := l.map fun c => Value.int .u8 (c.toNat : Int)
@[simp] theorem bv_length (l : List UInt8) : (bv l).length = l.length := by simp [bv]
theorem bv_append (l r : List UInt8) : bv (l ++ r) = bv l ++ bv r := by simp [bv]
theorem bv_one (l : List UInt8) : ∀ v ∈ bv l, v.oneCell' = true := by
  intro v hv
  obtain ⟨c, _, rfl⟩ := List.mem_map.1 hv
  rfl
theorem bv_get? (l : List UInt8) (i : Nat) (h : i < l.length) : (bv l)[i]? = some (.int .u8 (l[i].toNat : Int)) := by
  simp [bv, List.getElem?_eq_getElem h]

/-- Block g is just the cells cs of element type t, none frozen. -/
def Blk (w : World) (g : Nat) (t : TypeId) (cs : List Value) : Prop := w.heap[g]? = some (.cells cs.toArray t (0, 0))

section
variable {w w' : World} {g : Nat} {t : TypeId} {cs : List Value}
theorem Blk.lt (h : Blk w g t cs) : g < w.heap.size := by
  rcases Nat.lt_or_ge g w.heap.size with hlt | hge
  · exact hlt
  · unfold Blk at h; rw [Array.getElem?_eq_none hge] at h; cases h
theorem Blk.cell (h : Blk w g t cs) (i : Nat) : w.cell? ⟨g, i, none⟩ = cs[i]? := by
  rw [cell_of_row w g i cs.toArray t (0, 0) h]; simp
theorem Blk.frozen (h : Blk w g t cs) (i : Nat) : w.frozen? ⟨g, i, none⟩ = false := by
  unfold Blk at h
  simp [World.frozen?, h]
theorem Blk.new (w : World) (t : TypeId) (cs : List Value) : Blk (w.alloc (.cells cs.toArray t)) w.heap.size t cs := heap_alloc_new w _
theorem Blk.newAt (w : World) (t : TypeId) (cs : List Value) (n : Nat) (h : n = w.heap.size) : Blk (w.alloc (.cells cs.toArray t)) n t cs := by subst h; exact heap_alloc_new w _
theorem Blk.drew (h : Blk w g t cs) : Blk w.drew g t cs := h
theorem Blk.drewN (h : Blk w g t cs) (n : Nat) : Blk (w.drewN n) g t cs := h
theorem Blk.alloc (h : Blk w g t cs) (o : Obj) : Blk (w.alloc o) g t cs := (Below.heap_alloc w o g h.lt).trans h
theorem Blk.set_ (h : Blk w g t cs) (i : Nat) (u : Value) : Blk (w.setCell ⟨g, i, none⟩ u) g t (cs.set i u) := by
  unfold Blk at h ⊢
  simp [World.setCell, Array.getElem?_modify, h]
theorem Blk.far (h : Blk w g t cs) {p : Addr} (hp : g ≠ p.block) (u : Value) : Blk (w.setCell p u) g t cs := (Below.heap_setCell w p u g hp).trans h
theorem Blk.below {B : Nat} (h : Blk w g t cs) (hb : Below B w w') (hg : g < B) : Blk w' g t cs := (hb.block g hg).trans h
theorem Blk.grown {row : Option Nat} (h : Blk w g t cs) (hb : w.grownBy w' row) (hg : some g ≠ row) : Blk w' g t cs := (hb.block g h.lt hg).trans h
theorem Blk.setRow (h : Blk w g t cs) (cs' : List Value) : Blk (w.setRow g cs'.toArray) g t cs' := setRow_heap w g _ _ t _ h
end

section
variable {a w w' : World} {row : Option Nat}
theorem only_alloc (h : a.grownBy w row) (o : Obj) : a.grownBy (w.alloc o) row :=
  ⟨h.os, h.tape, h.output, Nat.le_trans h.size (by simp), fun i hi hne => (Below.heap_alloc w o i (Nat.lt_of_lt_of_le hi h.size)).trans (h.block i hi hne)⟩
theorem only_setCell {g : Nat} (h : a.grownBy w (some g)) {p : Addr} (hp : p.block = g ∨ a.heap.size ≤ p.block) (u : Value) : a.grownBy (w.setCell p u) (some g) :=
  ⟨h.os, h.tape, h.output, by simpa [World.setCell] using h.size, fun i hi hne => (Below.heap_setCell w p u i (by
    rintro rfl
    rcases hp with hp | hp
    · exact hne (by rw [hp])
    · omega)).trans (h.block i hi hne)⟩
theorem only_of_below (h : Below a.heap.size a w) (row : Option Nat) : a.grownBy w row := ⟨h.os, h.tape, h.output, h.size, fun i hi _ => h.block i hi⟩
theorem below_of_only {B g : Nat} (h : w.grownBy w' (some g)) (hB : B ≤ g) (hs : B ≤ w.heap.size) : Below B w w' :=
  ⟨h.os, h.tape, h.output, h.size, fun k hk => h.block k (by omega) (by simp; omega)⟩
theorem below_drewN {B : Nat} (h : Below B a w) (n : Nat) : Below B a (w.drewN n) := ⟨h.os, h.tape, h.output, h.size, h.block⟩
end

theorem addr_add (b o j : Nat) : (⟨b, o, none⟩ : Addr).add j = ⟨b, o + j, none⟩ := by unfold Addr.add; split <;> simp_all
theorem setRow_alloc (w : World) (c c' : Array Value) (t : TypeId) : (w.alloc (.cells c t)).setRow w.heap.size c' = w.alloc (.cells c' t) := by
  unfold World.setRow World.alloc
  congr 1
  apply Array.ext_getElem?
  intro k
  simp only [Array.getElem?_modify, Array.getElem?_push]
  by_cases hk : k = w.heap.size
  · subst hk; simp
  · simp [hk, Ne.symm hk]

/-- copy(row, s) out of a string that fits. -/
theorem run_copy_str {P : Program} (w : World) (dT sT ty elem : TypeId) (g o dLen dCap : Nat) (s : ByteArray) (cur : List Value) (t : TypeId)
    (hu : P.underlying dT = some (.slice elem)) (hs : (P.info? elem).map (·.size) = some 1) (hg : Blk w g t cur) (hn : s.size ≤ dLen) (hfit : o + s.size ≤ cur.length) :
    (Builtin.copy_ #[dT, sT] ty #[.slice (some ⟨g, o, none⟩) dLen dCap, .string s]).run P w =
      .ok (goInt s.size) (w.setRow g (cur.take o ++ bv s.data.toList ++ cur.drop (o + s.size)).toArray) := by
  have hst := run_storeCells_at P g o t (bv s.data.toList) 0 cur.toArray w hg (by simpa using hfit) (bv_one _)
  cases hq : P.info? elem with
  | none => simp [hq] at hs
  | some i =>
    have hi : i.size = 1 := by simpa [hq] using hs
    have hmin : Nat.min s.size dLen = s.size := by simp [hn]
    have hb : List.take s.size (List.map (fun b : UInt8 => Value.int .u8 (b.toNat : Int)) s.data.toList) = bv s.data.toList :=
      List.take_of_length_le (by simp)
    have hsz : s.data.toList.length = s.size := rfl
    simp only [Nat.add_zero, bv_length, hsz] at hst
    simp [Builtin.copy_, run_underlying hu, Builtin.lenOf, Builtin.firstCells, sizeOf, typeInfo, hq, hmin]
    rw [hb, hst]
    simp [Result.andThen]

/-- string(b) of one byte that lies in a block of its own, just made. -/
theorem run_string_one {P : Program} (w : World) (src dst e t : TypeId) (x : Nat) (hs : P.underlying src = some (.slice e)) (he : P.underlying e = some (.int .u8)) (hd : P.underlying dst = some .string) :
    (convert src dst (.slice (some ⟨w.heap.size, 0, none⟩) 1 1)).run P (w.alloc (.cells #[.int .u8 ((x : Int) % 256)] t)) = .ok (.string ⟨#[UInt8.ofNat x]⟩) (w.alloc (.cells #[.int .u8 ((x : Int) % 256)] t)) :=
  run_convert_bytes_back (P := P) (w.alloc (.cells #[.int .u8 ((x : Int) % 256)] t)) src dst e ⟨w.heap.size, 0, none⟩ 1 [UInt8.ofNat x] hs he hd (by
    intro j hj
    obtain rfl : j = 0 := by simp at hj; omega
    rw [addr_add, World.cell?_alloc_new]
    simp)

end Go.Proofs.YtljmklohgpaopaaGreatDoor

namespace Go.Proofs.YtljmklohgpaopaaGreatDoor
open Go.RowKit Go.Extern.Stop Go.Stop Go.Extern

/-- What the one package-level variable of package errors reads as. -/
def GE (w : World) : Prop := w.cell? ⟨1, 0, none⟩ = some (.iface 272 (.agg #[.pointer (some ⟨2, 83, none⟩)]))

/-- errors.As(nil, target). -/
theorem as_nil (t : Value) (w : World) :
    Calls Tryz.prog 111 #[.nilIface, t] w fun e w' => e = .returned (.bool false) ∧ w = w' := by
  go_enter Tryz.func111, Tryz.ntmps111
  go_wp2
  go_ret
  exact ⟨rfl, rfl⟩

/-! ### closed facts on the model's entries for reflectlite -/
theorem Tryz.valueOfPP (t : Addr) (w : World) : (ReflectliteValue.unpack (.iface 214 (.pointer (some t)))).run Tryz.prog w
    = .ok (.agg #[.pointer (some ⟨2, 214, none⟩), .pointer (some ⟨w.heap.size, 0, none⟩), .int .u64 150]) (w.alloc (.cells #[.pointer (some t)] 214)) := by kernel_rfl
theorem Tryz.typePP (a : Addr) (w : World) : (ReflectliteValue.methodAny (ReflectliteValue.valueError "reflectlite.Value.Type" 0) (fun t _ _ _ => ReflectliteType.toType t) #[.agg #[.pointer (some ⟨2, 214, none⟩), .pointer (some a), .int .u64 150]]).run Tryz.prog w
    = .ok (.iface 272 (.agg #[.pointer (some ⟨2, 214, none⟩)])) w := by kernel_rfl
theorem Tryz.methodKind (h : Value) (w : World) : (Go.method 442 272 (.agg #[h]) "Kind").run Tryz.prog w = .ok (211, h) w := by kernel_rfl
theorem Tryz.kindPP (w : World) : ((ReflectliteType.abiMethod fun t => (fun a : Nat => Value.int IntKind.u8 (a : Int)) <$> Rtype.kind t) #[.pointer (some ⟨2, 214, none⟩)]).run Tryz.prog w = .ok (.int .u8 22) w := by kernel_rfl
theorem Tryz.kindP (w : World) : ((ReflectliteType.abiMethod fun t => (fun a : Nat => Value.int IntKind.u8 (a : Int)) <$> Rtype.kind t) #[.pointer (some ⟨2, 212, none⟩)]).run Tryz.prog w = .ok (.int .u8 22) w := by kernel_rfl
theorem rlm (z : Sem Value) (f : TypeId → Addr → Nat → Nat → Sem Value) (v : Value) :
    ReflectliteValue.method z f #[v] = (do match ← ReflectliteValue.parts v with | none => z | some (t, a, fl) => f t a fl (fl % 32)) := rfl
theorem Tryz.partsPP (a : Addr) (w : World) : (ReflectliteValue.parts (.agg #[.pointer (some ⟨2, 214, none⟩), .pointer (some a), .int .u64 150])).run Tryz.prog w = .ok (some (214, a, 150)) w := by kernel_rfl
theorem Tryz.isNilPP (a p : Addr) (W : World) (ha : W.cell? a = some (.pointer (some p))) :
    (ReflectliteValue.method (ReflectliteValue.valueError "reflectlite.Value.IsNil" 0) ReflectliteValue.isNil #[.agg #[.pointer (some ⟨2, 214, none⟩), .pointer (some a), .int .u64 150]]).run Tryz.prog W = .ok (.bool false) W := by
  rw [rlm]
  simp only [Sem.run_bind, Tryz.partsPP, Result.andThen]
  simp [ReflectliteValue.isNil, loadVar, isAgg, underlying, Tryz.underlying214, ha, Result.andThen]
theorem Tryz.methodElem (h : Value) (w : World) : (Go.method 442 272 (.agg #[h]) "Elem").run Tryz.prog w = .ok (227, .agg #[h]) w := by kernel_rfl
theorem Tryz.methodImplements (h : Value) (w : World) : (Go.method 442 272 (.agg #[h]) "Implements").run Tryz.prog w = .ok (228, .agg #[h]) w := by kernel_rfl
theorem Tryz.methodAssignableTo (h : Value) (w : World) : (Go.method 442 272 (.agg #[h]) "AssignableTo").run Tryz.prog w = .ok (225, .agg #[h]) w := by kernel_rfl
theorem Tryz.elemPP (w : World) : (ReflectliteType.method ReflectliteType.elem #[.agg #[.pointer (some ⟨2, 214, none⟩)]]).run Tryz.prog w = .ok (.iface 272 (.agg #[.pointer (some ⟨2, 212, none⟩)])) w := by kernel_rfl
theorem Tryz.implementsP (w : World) : (ReflectliteType.relation "Implements" ReflectliteType.implements_ #[.agg #[.pointer (some ⟨2, 212, none⟩)], .iface 272 (.agg #[.pointer (some ⟨2, 83, none⟩)])]).run Tryz.prog w = .ok (.bool true) w := by kernel_rfl
theorem Tryz.typeOfP (v : Value) (w : World) : (ReflectliteType.typeOf #[.iface 212 v]).run Tryz.prog w = .ok (.iface 272 (.agg #[.pointer (some ⟨2, 212, none⟩)])) w := by kernel_rfl
theorem Tryz.typeOfK (v : Value) (w : World) : (ReflectliteType.typeOf #[.iface 26 v]).run Tryz.prog w = .ok (.iface 272 (.agg #[.pointer (some ⟨2, 26, none⟩)])) w := by kernel_rfl
theorem Tryz.assignablePP (w : World) : (ReflectliteType.relation "AssignableTo" ReflectliteType.assignableTo #[.agg #[.pointer (some ⟨2, 212, none⟩)], .iface 272 (.agg #[.pointer (some ⟨2, 212, none⟩)])]).run Tryz.prog w = .ok (.bool true) w := by kernel_rfl
theorem Tryz.assignableKP (w : World) : (ReflectliteType.relation "AssignableTo" ReflectliteType.assignableTo #[.agg #[.pointer (some ⟨2, 26, none⟩)], .iface 272 (.agg #[.pointer (some ⟨2, 212, none⟩)])]).run Tryz.prog w = .ok (.bool false) w := by kernel_rfl
theorem Tryz.assignableKK (w : World) : (ReflectliteType.relation "AssignableTo" ReflectliteType.assignableTo #[.agg #[.pointer (some ⟨2, 26, none⟩)], .iface 272 (.agg #[.pointer (some ⟨2, 26, none⟩)])]).run Tryz.prog w = .ok (.bool true) w := by kernel_rfl

/-! the target *Kind -/
theorem Tryz.valueOfPK (t : Addr) (w : World) : (ReflectliteValue.unpack (.iface 217 (.pointer (some t)))).run Tryz.prog w
    = .ok (.agg #[.pointer (some ⟨2, 217, none⟩), .pointer (some ⟨w.heap.size, 0, none⟩), .int .u64 150]) (w.alloc (.cells #[.pointer (some t)] 217)) := by kernel_rfl
theorem Tryz.typePK (a : Addr) (w : World) : (ReflectliteValue.methodAny (ReflectliteValue.valueError "reflectlite.Value.Type" 0) (fun t _ _ _ => ReflectliteType.toType t) #[.agg #[.pointer (some ⟨2, 217, none⟩), .pointer (some a), .int .u64 150]]).run Tryz.prog w
    = .ok (.iface 272 (.agg #[.pointer (some ⟨2, 217, none⟩)])) w := by kernel_rfl
theorem Tryz.kindPK (w : World) : ((ReflectliteType.abiMethod fun t => (fun a : Nat => Value.int IntKind.u8 (a : Int)) <$> Rtype.kind t) #[.pointer (some ⟨2, 217, none⟩)]).run Tryz.prog w = .ok (.int .u8 22) w := by kernel_rfl
theorem Tryz.kindK (w : World) : ((ReflectliteType.abiMethod fun t => (fun a : Nat => Value.int IntKind.u8 (a : Int)) <$> Rtype.kind t) #[.pointer (some ⟨2, 26, none⟩)]).run Tryz.prog w = .ok (.int .u8 2) w := by kernel_rfl
theorem Tryz.partsPK (a : Addr) (w : World) : (ReflectliteValue.parts (.agg #[.pointer (some ⟨2, 217, none⟩), .pointer (some a), .int .u64 150])).run Tryz.prog w = .ok (some (217, a, 150)) w := by kernel_rfl
theorem Tryz.isNilPK (a p : Addr) (W : World) (ha : W.cell? a = some (.pointer (some p))) :
    (ReflectliteValue.method (ReflectliteValue.valueError "reflectlite.Value.IsNil" 0) ReflectliteValue.isNil #[.agg #[.pointer (some ⟨2, 217, none⟩), .pointer (some a), .int .u64 150]]).run Tryz.prog W = .ok (.bool false) W := by
  rw [rlm]
  simp only [Sem.run_bind, Tryz.partsPK, Result.andThen]
  simp [ReflectliteValue.isNil, loadVar, isAgg, underlying, Tryz.underlying217, ha, Result.andThen]
theorem Tryz.elemPK (w : World) : (ReflectliteType.method ReflectliteType.elem #[.agg #[.pointer (some ⟨2, 217, none⟩)]]).run Tryz.prog w = .ok (.iface 272 (.agg #[.pointer (some ⟨2, 26, none⟩)])) w := by kernel_rfl
theorem Tryz.implementsK (w : World) : (ReflectliteType.relation "Implements" ReflectliteType.implements_ #[.agg #[.pointer (some ⟨2, 26, none⟩)], .iface 272 (.agg #[.pointer (some ⟨2, 83, none⟩)])]).run Tryz.prog w = .ok (.bool true) w := by kernel_rfl
theorem Tryz.valueOfP (e : Addr) (w : World) : (ReflectliteValue.unpack (.iface 212 (.pointer (some e)))).run Tryz.prog w
    = .ok (.agg #[.pointer (some ⟨2, 212, none⟩), .pointer (some ⟨w.heap.size, 0, none⟩), .int .u64 150]) (w.alloc (.cells #[.pointer (some e)] 212)) := by kernel_rfl
theorem Tryz.valueOfK (k : Int) (w : World) : (ReflectliteValue.unpack (.iface 26 (.int .i64 k))).run Tryz.prog w
    = .ok (.agg #[.pointer (some ⟨2, 26, none⟩), .pointer (some ⟨w.heap.size, 0, none⟩), .int .u64 130]) (w.alloc (.cells #[.int .i64 k] 26)) := by kernel_rfl
end Go.Proofs.YtljmklohgpaopaaGreatDoor

namespace Go.Proofs.YtljmklohgpaopaaGreatDoor
open Go.ChangeShapes Go.WideShapes Go.ChangeAt Go.RowKit
set_option linter.unusedVariables false

theorem own : ownKnob Tryz.prog.godebug = none := by kernel_rfl
theorem laidOut : laidOutB Tryz.prog = true := by kernel_rfl
theorem Tryz.et : Tryz.prog.globalNamed "errors.errorType" = some 1 := by kernel_rfl
theorem Tryz.rt : (Tryz.prog.cutTypes.find? (·.1 == "internal/reflectlite.rtype")).map (·.2) = some 272 := by kernel_rfl
theorem Tryz.oneRow : ((List.range 342).filter fun t => Tryz.prog.rowNamed t [101, 114, 114, 111, 114]) = [83] := by kernel_rfl
theorem Tryz.size : Tryz.prog.types.size = 342 := by kernel_rfl

theorem ge_of_handles {l : List (String × DataW Unit)} {W : World} (h : handlesMet Tryz.prog l W) (hl : ("errors.errorType", Rows.laid_errors_errorType) ∈ l) : GE W := by
  obtain ⟨name, u, ty, e1, e2, e3, e4, e5⟩ := h _ hl
  have en : name = [101, 114, 114, 111, 114] := (Option.some.inj e1).symm
  subst en
  obtain rfl := Option.some.inj (Tryz.rt.symm.trans e2)
  have hm : ty ∈ (List.range 342).filter fun t => Tryz.prog.rowNamed t [101, 114, 114, 111, 114] := List.mem_filter.2 ⟨List.mem_range.2 (by rw [← Tryz.size]; exact e3), e4⟩
  rw [Tryz.oneRow] at hm
  obtain rfl := List.mem_singleton.1 hm
  have hh : typeHandle Tryz.prog 83 = .pointer (some ⟨2, 83, none⟩) := by kernel_rfl
  rw [hh] at e5
  have hc := World.var?_cell Tryz.et e5 0
  unfold GE
  simpa using hc
theorem ge_of_laid {W : World} (h : laidMetH Tryz.prog [("errors.errorType", Rows.laid_errors_errorType)] W) : GE W := by
  have h' : laidMet Tryz.prog [] W ∧ handlesMet Tryz.prog [("errors.errorType", Rows.laid_errors_errorType)] W := h
  exact ge_of_handles h'.2 (List.mem_singleton.2 rfl)

/-- A world that meets the condition: the settled one, the variable's cell laid. -/
noncomputable def laidWorld (os : Os) : World :=
  let w0 := World.holding Tryz.prog os ⟨#[], #[], []⟩
  { w0 with heap := w0.heap.modify 1 fun
      | .cells _ t frozen => .cells #[.iface 272 (.agg #[.pointer (some ⟨2, 83, none⟩)])] t frozen
      | o => o }
theorem laidWorld_met (os : Os) (args : Array Value) : laidMetH Tryz.prog [("errors.errorType", Rows.laid_errors_errorType)] ((laidWorld os).forCall (fun _ _ => 0) ⟨#[], args, []⟩).memory :=
  laidMetH_of_parts (laidMet_nil _ _) (by kernel_rfl)
end Go.Proofs.YtljmklohgpaopaaGreatDoor

namespace Go.Proofs.YtljmklohgpaopaaGreatDoor
namespace Pl

def sumStep (h : Nat) (c : UInt8) : Nat := (h * 33 + c.toNat + 1) % 4294967291
def sumN (l : List UInt8) : Nat := l.foldl sumStep 5381

theorem sumStep_lt (h : Nat) (c : UInt8) : sumStep h c < 4294967291 := Nat.mod_lt _ (by decide)
theorem foldl_lt (l : List UInt8) : ∀ h, h < 4294967291 → l.foldl sumStep h < 4294967291 := by
  induction l with
  | nil => intro h hh; exact hh
  | cons c r ih => intro h _; exact ih _ (sumStep_lt h c)
theorem sumN_lt (l : List UInt8) : sumN l < 4294967291 := foldl_lt l _ (by decide)
theorem sumN_snoc (l : List UInt8) (c : UInt8) : sumN (l ++ [c]) = sumStep (sumN l) c := by simp [sumN]

def bitStep (v : Nat) : Nat := if v % 2 = 1 then v / 2 ^^^ 3988292384 else v / 2
def bitN : Nat → Nat → Nat
  | 0, v => v
  | n + 1, v => bitStep (bitN n v)
def byOne (v : Nat) : Nat := bitN 8 v
theorem bitStep_lt {v : Nat} (h : v < 4294967296) : bitStep v < 4294967296 := by
  unfold bitStep
  split
  · exact Nat.xor_lt_two_pow (n := 32) (by omega) (by decide)
  · omega
theorem bitN_lt {v : Nat} (h : v < 4294967296) (n : Nat) : bitN n v < 4294967296 := by
  induction n with
  | zero => exact h
  | succ n ih => exact bitStep_lt ih
def checkStep (v : Nat) (c : UInt8) : Nat := byOne (v ^^^ c.toNat)
def checkN (l : List UInt8) : Nat := l.foldl checkStep 4294967295
theorem checkStep_lt {v : Nat} (h : v < 4294967296) (c : UInt8) : checkStep v c < 4294967296 :=
  bitN_lt (Nat.xor_lt_two_pow (n := 32) h (by have := c.toNat_lt; omega)) 8
theorem checkN_snoc (l : List UInt8) (c : UInt8) : checkN (l ++ [c]) = checkStep (checkN l) c := by simp [checkN]
theorem check_foldl_lt (l : List UInt8) : ∀ h, h < 4294967296 → l.foldl checkStep h < 4294967296 := by
  induction l with
  | nil => intro h hh; exact hh
  | cons c r ih => intro h hh; exact ih _ (checkStep_lt hh c)
theorem checkN_lt (l : List UInt8) : checkN l < 4294967296 := check_foldl_lt l _ (by decide)

/-- A number in so many bytes, the highest first. -/
def be : Nat → Nat → List UInt8
  | 0, _ => []
  | k + 1, v => UInt8.ofNat (v / 256 ^ k) :: be k v
theorem be_length (k v : Nat) : (be k v).length = k := by induction k with | zero => rfl | succ k ih => simp [be, ih]
def hashText (n : Nat) : List UInt8 := be 4 n
theorem hashText_eq (n : Nat) : hashText n = [UInt8.ofNat (n / 16777216), UInt8.ofNat (n / 65536), UInt8.ofNat (n / 256), UInt8.ofNat n] := by
  simp [hashText, be]

end Pl
end Go.Proofs.YtljmklohgpaopaaGreatDoor

namespace Go.Proofs.YtljmklohgpaopaaGreatDoor
open Go.RowKit

/-- The slice value leads to these bytes (the first 'len' of its cells). -/
def BytesAt (w : World) (A : Option Addr) (l : List UInt8) : Prop :=
  l = [] ∨ ∃ b off, A = some ⟨b, off, none⟩ ∧ ∀ i, (h : i < l.length) → w.cell? ⟨b, off + i, none⟩ = some (.int .u8 (l[i].toNat : Int))

theorem take_snoc (l : List UInt8) (k : Nat) (h : k < l.length) : l.take (k + 1) = l.take k ++ [l[k]] := by
  rw [List.take_succ_eq_append_getElem h]

theorem BytesAt.at_ {w : World} {A : Option Addr} {l : List UInt8} (h : BytesAt w A l) (k : Nat) (hk : k < l.length) :
    ∃ b off, A = some ⟨b, off, none⟩ ∧ w.cell? ⟨b, off + k, none⟩ = some (.int .u8 (l[k].toNat : Int)) := by
  rcases h with rfl | ⟨b, off, rfl, h⟩
  · simp at hk
  · exact ⟨b, off, rfl, h k hk⟩
theorem BytesAt.lt {w : World} {b off : Nat} {l : List UInt8} (h : BytesAt w (some ⟨b, off, none⟩) l) (hl : l ≠ []) : b < w.heap.size := by
  rcases h with rfl | ⟨b', off', e, h⟩
  · exact absurd rfl hl
  · cases e
    exact World.block_lt_of_cell? _ _ (h 0 (List.length_pos_iff.2 hl))

/-- A hash as the program has it: the four bytes of a number. -/
def hashVal (n : Nat) : Value := .agg #[.int .u8 ((n : Int) / 16777216), .int .u8 ((n : Int) / 65536 % 256), .int .u8 ((n : Int) / 256 % 256), .int .u8 ((n : Int) % 256)]

set_option maxHeartbeats 400000 in
theorem sum_any (A : Option Addr) (cap : Nat) (l : List UInt8) (w : World) (hb : BytesAt w A l) (hm : l.length ≤ 9223372036854775807) :
    Calls Tryz.prog 149 #[.slice A l.length cap] w fun e w' => e = .returned (hashVal (Pl.sumN l)) ∧ Below w.heap.size w w' := by
  go_enter Tryz.func149, Tryz.ntmps149
  go_wp2
  go_loop [3, 8] (fun h i => ∃ k : Nat, k ≤ l.length ∧ i = .int .i64 k ∧ h = .int .u64 (Pl.sumN (l.take k))) (fun _ i => l.length - (intOf i).toNat)
  case atStart => exact ⟨0, Nat.zero_le _, rfl, rfl⟩
  case round =>
    obtain ⟨k, hk, rfl, rfl⟩ := hrel
    have hlt := Pl.sumN_lt (l.take k)
    by_cases hkl : k < l.length
    · obtain ⟨b, off, rfl, hc⟩ := hb.at_ k hkl
      have hbl := World.block_lt_of_cell? _ _ hc
      have hcl : (l[k].toNat : Int) < 256 := by have := l[k].toNat_lt; omega
      go_wp2
      go_round
      case rel =>
        refine ⟨k + 1, by omega, by go_num, ?_⟩
        rw [take_snoc l k hkl, Pl.sumN_snoc]
        simp [Pl.sumStep]
      case measure => simp [intOf]; omega
    · have hkk : k = l.length := by omega
      subst hkk
      rw [List.take_length] at hlt
      simp only [List.take_length]
      go_wp2
      refine bodyPost_ret (v := hashVal (Pl.sumN l)) (by simp [results, Tryz.results149, go_sem, hashVal]) rfl ⟨rfl, ?_⟩
      exact (Below.refl _ _).alloc (Nat.le_refl _) _
end Go.Proofs.YtljmklohgpaopaaGreatDoor

namespace Go.Proofs.YtljmklohgpaopaaGreatDoor
open Go.RowKit

theorem Tryz.infoByte : (Tryz.prog.info? 5).map (fun i => (i.zero, i.size, i.bytes)) = some (some (.int .u8 0), 1, 1) := by kernel_rfl
theorem Tryz.sizeByte : (Tryz.prog.info? 5).map (·.size) = some 1 := by kernel_rfl

def zrow (n : Nat) : List Value := List.replicate n (.int .u8 0)
theorem madeCells_one (v : Value) (n : Nat) : madeCells #[v] n = (List.replicate n v).toArray := by
  apply Array.ext
  · simp [madeCells]
  · intro i h1 h2
    simp [madeCells, Nat.mod_one]
theorem make_bytes (x : Int) (n : Nat) (hx : x = n) (hn : n ≤ 281474976710656) (w : World) :
    (Instr.makeSlice 25 (.int .i64 x) (.int .i64 x)).run Tryz.prog w = .ok (.slice (some ⟨w.heap.size, 0, none⟩) n n) (w.alloc (.cells (zrow n).toArray 5)) := by
  subst hx
  obtain ⟨i, hi, hz0, hz1, hz2⟩ := info_parts Tryz.infoByte
  have h := run_make (P := Tryz.prog) w 25 5 i (.int .u8 0) Tryz.underlying25 hi hz0 .i64 .i64 n n (by omega) (Int.le_refl _) (by rw [hz2]; omega) (by omega)
  rw [h]
  simp [hz1, Value.cells, madeCells_one, zrow]

def lrow (s : ByteArray) : List Value := bv s.data.toList ++ [.int .u8 0, .int .u8 0]
def lentRow (l : List UInt8) : List Value := bv (l ++ [77, 78])

set_option maxHeartbeats 400000 in
theorem lent_any (s : ByteArray) (w : World) (hm : s.size ≤ 140737488351232) :
    Calls Tryz.prog 33 #[.string s] w fun e w' => e = .returned (.slice (some ⟨w.heap.size, 0, none⟩) s.size (s.size + 2)) ∧ w' = w.alloc (.cells (lentRow s.data.toList).toArray 5) := by
  have hmk := make_bytes ((s.size : Int) + 2) (s.size + 2) (by omega) (by omega)
  have hs : s.data.toList.length = s.size := rfl
  have hcp := run_copy_str (P := Tryz.prog) (w.alloc (.cells (zrow (s.size + 2)).toArray 5)) 25 9 3 5 w.heap.size 0 (s.size + 2) (s.size + 2) s (zrow (s.size + 2)) 5 Tryz.underlying25 Tryz.sizeByte (Blk.new _ _ _) (by omega) (by simp [zrow])
  have he : (List.take 0 (zrow (s.size + 2)) ++ bv s.data.toList ++ List.drop (0 + s.size) (zrow (s.size + 2))) = lrow s := by
    simp only [zrow, lrow, List.drop_replicate, List.take_zero, List.nil_append]
    rw [show s.size + 2 - (0 + s.size) = 2 by omega]
    rfl
  rw [he, setRow_alloc] at hcp
  have e1 : lrow s = bv s.data.toList ++ [.int .u8 0, .int .u8 0] := rfl
  have e2 : (bv s.data.toList).length = s.size := by simp
  have e3 : lentRow s.data.toList = bv s.data.toList ++ [.int .u8 77, .int .u8 78] := by simp [lentRow, bv]
  have hfin : ((lrow s).set s.size (.int .u8 77)).set (s.size + 1) (.int .u8 78) = lentRow s.data.toList := by
    rw [e1, e3]
    generalize bv s.data.toList = L at e2
    simp [← e2, List.set_append_right]
  have hc0 : (lrow s)[s.size]? = some (.int .u8 0) := by rw [e1, List.getElem?_append_right (by omega), e2]; simp
  have hc1 : (lrow s)[s.size + 1]? = some (.int .u8 0) := by rw [e1, List.getElem?_append_right (by omega), e2]; simp
  have HF := Lib.hid hfin
  clear he hs hfin e1 e2 e3
  go_enter Tryz.func33, Tryz.ntmps33
  go_wp2
  go_ret
  exact ⟨rfl, by rw [HF.out]⟩

set_option maxHeartbeats 400000 in
theorem refBytes_any (v n : Nat) (w : World) (hv : v < 18446744073709551616) (hn : n ≤ 8) :
    Calls Tryz.prog 39 #[.int .u64 v, .int .i64 n] w fun e w' => e = .returned (.string ⟨(Pl.be n v).toArray⟩) ∧ Below w.heap.size w w' := by
  have hmx : Hid (v < 18446744073709551616) := hv
  clear hv
  go_enter Tryz.func39, Tryz.ntmps39
  go_wp2
  go_loopw [0, 5, 6] (fun x s i wr => ∃ k y : Nat, k ≤ n ∧ i = .int .i64 k ∧ Hid (v / 256 ^ k = y) ∧ x = .int .u64 (y : Int) ∧ s = .string ⟨(Pl.be k v).toArray⟩ ∧ Below w.heap.size w wr) (fun _ _ i _ => n - (intOf i).toNat)
  case atStart => exact ⟨0, v, by omega, rfl, by simp [Hid], rfl, rfl, Below.refl _ _⟩
  case round =>
    obtain ⟨k, y, hk, rfl, HY, rfl, rfl, hbel⟩ := hrel
    by_cases hkn : k < n
    · have hcv := run_string_one (P := Tryz.prog) wr 25 9 5 5 y Tryz.underlying25 Tryz.underlying5 Tryz.underlying9
      have hlen : (Pl.be k v).length ≤ 8 := by rw [Pl.be_length]; omega
      have hyv : y ≤ v := by rw [← HY.out]; exact Nat.div_le_self _ _
      have hwr : Hid (IntKind.u64.wrap ((y : Int) / 256) = ((y / 256 : Nat) : Int)) := by
        have := hmx.out
        exact IntWalk.u64_in _ (by omega)
      go_wp2
      exact ⟨⟨k + 1, y / 256, by omega, by go_num, by rw [Hid, Nat.pow_succ, ← Nat.div_div_eq_div_mul, HY.out], by rw [hwr.out], by rw [Pl.be, HY.out]; rfl, hbel.alloc hbel.size _⟩, by simp [intOf]; omega⟩
    · obtain rfl : k = n := by omega
      go_wp2
      go_ret
      exact ⟨rfl, hbel⟩

set_option maxHeartbeats 400000 in
theorem refSum_any (s : ByteArray) (w : World) (hm : s.size ≤ 9223372036854775807) :
    Calls Tryz.prog 14 #[.string s] w fun e w' => e = .returned (.string ⟨(Pl.hashText (Pl.sumN s.data.toList)).toArray⟩) ∧ Below w.heap.size w w' := by
  go_enter Tryz.func14, Tryz.ntmps14
  go_wp2
  go_loop [3, 4] (fun h i => ∃ k : Nat, k ≤ s.size ∧ i = .int .i64 k ∧ h = .int .u64 (Pl.sumN (s.data.toList.take k))) (fun _ i => s.size - (intOf i).toNat)
  case atStart => exact ⟨0, Nat.zero_le _, rfl, rfl⟩
  case round =>
    obtain ⟨k, hk, rfl, rfl⟩ := hrel
    have hlt := Pl.sumN_lt (s.data.toList.take k)
    by_cases hkl : k < s.size
    · obtain ⟨c, hc⟩ : ∃ c, s[k] = c := ⟨_, rfl⟩
      have HC : Hid (s.data.toList[k]'hkl = c) := hc
      have hcl : (c.toNat : Int) < 256 := by have := c.toNat_lt; omega
      go_wp2
      go_round
      case rel =>
        refine ⟨k + 1, by omega, by go_num, ?_⟩
        rw [take_snoc _ k hkl, Pl.sumN_snoc, HC.out]
        simp [Pl.sumStep]
        omega
      case measure => simp [intOf]; omega
    · have hkk : k = s.data.toList.length := by show k = s.size; omega
      rw [show s.data.toList.take k = s.data.toList by rw [hkk, List.take_length]] at hlt ⊢
      clear hkk
      go_wp2_with fail
      refine (refBytes_any _ 4 _ (by omega) (by omega)).mono ?_
      rintro e w1 ⟨rfl, hb1⟩
      go_wp2
      go_ret
      exact ⟨rfl, hb1⟩

theorem getb (l : List UInt8) (i : Nat) (h : i < l.length) : (bv l)[i]? = some (.int .u8 (l[i].toNat : Int)) := bv_get? l i h

set_option maxHeartbeats 400000 in
set_option maxRecDepth 100000 in
/-- A slice that 'lent' made: block g holds the text and the two bytes behind it. -/
theorem stays_any (g : Nat) (s : ByteArray) (w : World) (hm : s.size ≤ 140737488351232) (hb : Blk w g 5 (lentRow s.data.toList)) :
    Calls Tryz.prog 36 #[.slice (some ⟨g, 0, none⟩) s.size (s.size + 2), .string s] w fun e w' => e = .returned (.bool true) ∧ w.grownBy w' (some g) ∧ ∃ cs, cs.length = s.size + 2 ∧ Blk w' g 5 cs := by
  have hlen : (lentRow s.data.toList).length = s.size + 2 := by simp [lentRow]
  have hget : ∀ i, (h : i < s.data.toList.length) → w.cell? ⟨g, i, none⟩ = some (.int .u8 (s.data.toList[i].toNat : Int)) := by
    intro i h
    rw [hb.cell, lentRow, bv_append, List.getElem?_append_left (by simpa using h), getb _ i h]
  have hcv := run_convert_bytes_back (P := Tryz.prog) w 25 9 5 ⟨g, 0, none⟩ (s.size + 2) s.data.toList Tryz.underlying25 Tryz.underlying5 Tryz.underlying9
    (fun j hj => by rw [addr_add, Nat.zero_add]; exact hget j hj)
  have hs1 : s.data.toList.length = s.size := rfl
  have hs2 : (⟨s.data.toList.toArray⟩ : ByteArray) = s := rfl
  rw [hs1, hs2] at hcv
  have h77 : w.cell? ⟨g, s.size, none⟩ = some (.int .u8 77) := by
    rw [hb.cell, lentRow, bv_append, List.getElem?_append_right (by simp)]; simp [bv]
  have h78 : w.cell? ⟨g, s.size + 1, none⟩ = some (.int .u8 78) := by
    rw [hb.cell, lentRow, bv_append, List.getElem?_append_right (by simp)]; simp [bv]
  clear hs1 hs2 hget
  have HB := Lib.hid hb
  clear hb
  have HL := Lib.hid hlen
  clear hlen
  go_enter Tryz.func36, Tryz.ntmps36
  go_wp2
  go_loopw [7] (fun i wr => ∃ k cs, k ≤ s.size + 2 ∧ i = .int .i64 (k : Nat) ∧ Hid (cs.length = s.size + 2) ∧ Hid (Blk wr g 5 cs) ∧ w.grownBy wr (some g)) (fun i _ => s.size + 2 - (intOf i).toNat)
  case atStart => exact ⟨0, _, by omega, rfl, HL.out, HB.out, World.grownBy.refl w _⟩
  case round =>
    obtain ⟨k, cs, hk, rfl, HC, HB1, hon⟩ := hrel
    by_cases hkn : k < s.size + 2
    · have hc : wr.cell? ⟨g, k, none⟩ = some (cs[k]'(by rw [HC.out]; exact hkn)) := by rw [HB1.out.cell, List.getElem?_eq_getElem]
      have hf := HB1.out.frozen k
      go_wp2
      exact ⟨⟨k + 1, _, by omega, by go_num, by rw [Hid, List.length_set]; exact HC.out, HB1.out.set_ k _, only_setCell hon (.inl rfl) _⟩, by simp [intOf]; omega⟩
    · go_wp2
      go_ret
      exact ⟨rfl, hon, cs, HC.out, HB1.out⟩
end Go.Proofs.YtljmklohgpaopaaGreatDoor

namespace Go.Proofs.YtljmklohgpaopaaGreatDoor
open Go.RowKit

/-- The address leads to these cells (of none nothing is asked). -/
def Src (w : World) (A : Option Addr) (cs : List Value) : Prop :=
  cs = [] ∨ ∃ b off, A = some ⟨b, off, none⟩ ∧ ∀ j u, cs[j]? = some u → w.cell? ⟨b, off + j, none⟩ = some u

theorem Src.nil (w : World) (A : Option Addr) : Src w A [] := .inl rfl
theorem Src.of_blk {w : World} {g : Nat} {t : TypeId} {cs : List Value} (h : Blk w g t cs) : Src w (some ⟨g, 0, none⟩) cs :=
  .inr ⟨_, _, rfl, fun j u hu => by rw [Nat.zero_add, h.cell, hu]⟩
theorem Src.at_ {w : World} {A : Option Addr} {cs : List Value} (h : Src w A cs) (j : Nat) (u : Value) (hu : cs[j]? = some u) :
    ∃ b off, A = some ⟨b, off, none⟩ ∧ w.cell? ⟨b, off + j, none⟩ = some u := by
  rcases h with rfl | ⟨b, off, rfl, h⟩
  · cases hu
  · exact ⟨b, off, rfl, h j u hu⟩
theorem Src.keep {w w' : World} {A : Option Addr} {cs : List Value} (h : Src w A cs) (hk : ∀ p u, w.cell? p = some u → w'.cell? p = some u) : Src w' A cs := by
  rcases h with h | ⟨b, off, rfl, h⟩
  · exact .inl h
  · exact .inr ⟨b, off, rfl, fun j u hu => hk _ _ (h j u hu)⟩
theorem below_keeps {w w' : World} (hb : Below w.heap.size w w') (p : Addr) (u : Value) (h : w.cell? p = some u) : w'.cell? p = some u :=
  (hb.cell (World.block_lt_of_cell? _ _ h)).trans h
theorem Src.below {w w' : World} {A : Option Addr} {cs : List Value} (h : Src w A cs) (hb : Below w.heap.size w w') : Src w' A cs := h.keep (below_keeps hb)
theorem Src.take {w : World} {A : Option Addr} {cs : List Value} (h : Src w A cs) (n : Nat) : Src w A (cs.take n) := by
  rcases h with rfl | ⟨b, off, rfl, h⟩
  · exact .inl (by simp)
  · exact .inr ⟨b, off, rfl, fun j u hu => by
      rw [List.getElem?_take] at hu
      split at hu
      · exact h j u hu
      · cases hu⟩
/-- What stands behind a cut 's[k:]': its address is the old one where the cut is at the capacity. -/
theorem Src.drop {w : World} {A : Option Addr} {cs : List Value} (h : Src w A cs) (n cap k : Nat) (hn : n = k → cs.length ≤ k) : Src w (if cap = n then A else A.map (·.add k)) (cs.drop k) ∨ cap = n := by
  by_cases hc : cap = n
  · exact .inr hc
  · left
    rw [if_neg hc]
    rcases h with rfl | ⟨b, off, rfl, h⟩
    · exact .inl (by simp)
    · refine .inr ⟨b, off + k, by simp [addr_add], fun j u hu => ?_⟩
      rw [List.getElem?_drop] at hu
      rw [Nat.add_assoc]
      exact h _ u hu

theorem own_src {w : World} {base : Nat} {e : TypeId} {size n : Nat} {v : Value} {xs : List Value} (h : w.ownsRow base e size v n xs) : ∃ A cap, v = .slice A n cap ∧ n ≤ cap ∧ Src w A xs ∧ (∀ a, A = some a → v.ownBlock = some a.block) := by
  rcases h.2 with ⟨rfl, rfl⟩ | ⟨g, cap, cur, rfl, _, hg, hnc, _, hcs, htake⟩
  · exact ⟨none, 0, rfl, Nat.le_refl _, .inl (List.eq_nil_of_length_eq_zero (by simpa using h.1)), fun a ha => by cases ha⟩
  · refine ⟨_, cap, rfl, hnc, .inr ⟨g, 0, rfl, fun j u hu => ?_⟩, fun a ha => by cases ha; rfl⟩
    have := h.cells (g := g) rfl j u hu
    rwa [addr_add] at this

theorem nextslicecap_le54 {need old : Nat} (h : old < need) : Builtin.nextslicecap need old ≤ need + need / 4 + 512 := by
  unfold Builtin.nextslicecap
  split
  · omega
  · split
    · omega
    · rw [growBy_four]
      split
      · omega
      · split
        · omega
        · split
          · omega
          · split <;> omega

section
variable {P : Program} (w : World)

theorem run_append_of_nil (base : Nat) (t ty e : TypeId) (i : TypeInfo) (size : Nat) (ht : P.underlying t = some (.slice e)) (hi : P.info? e = some i)
    (v : Value) (n : Nat) (xs : List Value) (hown : w.ownsRow base e size v n xs) (c : Nat) : (Builtin.append_ #[t, t] ty #[v, .slice none 0 c]).run P w = .ok v w := by
  rcases hown.2 with ⟨rfl, rfl⟩ | ⟨g, cap, cur, rfl, _, _, hnc, _⟩
  · simp [Builtin.append_, run_underlying ht, sizeOf, typeInfo, hi, Builtin.lenOf, Builtin.firstCells]
  · simp [Builtin.append_, run_underlying ht, sizeOf, typeInfo, hi, Builtin.lenOf, Builtin.firstCells, hnc, storeCells]

theorem run_append_addr (base : Nat) (t ty e : TypeId) (i : TypeInfo) (z : Value) (size bytes : Nat) (ht : P.underlying t = some (.slice e)) (hi : P.info? e = some i) (hz : i.zero = some z)
    (hsize : i.size = size) (hby : i.bytes = bytes) (hzs : z.cells.size = size) (hsz : 0 < size)
    (v : Value) (n : Nat) (xs : List Value) (hown : w.ownsRow base e size v n xs)
    (a : Addr) (m c : Nat) (news : List Value) (hl : news.length = m * size) (hnews : ∀ j u, news[j]? = some u → w.cell? (a.add j) = some u) (h1 : ∀ u ∈ news, u.oneCell' = true)
    (h63 : n + m ≤ maxLen) (hbytes : ∀ old, old < n + m → Builtin.nextslicecap (n + m) old * bytes ≤ 281474976710656) (hbase : base ≤ w.heap.size) :
    ∃ v' w', (Builtin.append_ #[t, t] ty #[v, .slice (some a) m c]).run P w = .ok v' w' ∧ w'.ownsRow base e size v' (n + m) (xs ++ news) ∧ w.grownBy w' v.ownBlock ∧
      (v'.ownBlock = v.ownBlock ∨ v'.ownBlock = some w.heap.size) := by
  subst hsize
  subst hby
  have hsmall : n + m ≤ 9223372036854775807 := by simp only [maxLen] at h63; omega
  have hlen : (xs ++ news).length = (n + m) * i.size := by rw [List.length_append, hown.1, hl, Nat.add_mul]
  have grown : ∀ (old : Nat), old < n + m → ∀ (row : Option Nat),
      (w.drew.alloc (.cells (xs.toArray ++ news.toArray ++ Builtin.zeroCells z.cells (grownCap w (n + m) old e - (n + m))) e)).ownsRow base e i.size
        (.slice (some ⟨w.heap.size, 0, none⟩) (n + m) (grownCap w (n + m) old e)) (n + m) (xs ++ news) ∧
      w.grownBy (w.drew.alloc (.cells (xs.toArray ++ news.toArray ++ Builtin.zeroCells z.cells (grownCap w (n + m) old e - (n + m))) e)) row := by
    intro old ho row
    have hge := grownCap_ge w (n + m) old e
    have hcm : grownCap w (n + m) old e ≤ maxLen := grownCap_le_maxLen w (n + m) old e h63
    refine ⟨⟨hlen, .inr ⟨w.heap.size, _, _, rfl, hbase, heap_alloc_new w.drew _, hge, hcm, ?_, ?_⟩⟩, ⟨rfl, rfl, rfl, by simp, fun k hk _ => Below.heap_alloc w.drew _ k hk⟩⟩
    · simp only [Array.size_append, List.size_toArray, size_zeroCells, hzs, hown.1, hl, ← Nat.add_mul]
      congr 1
      omega
    · simp only [Array.toList_append, List.append_assoc]
      rw [← List.append_assoc, ← hlen]
      exact List.take_left
  rcases hown.2 with ⟨rfl, rfl⟩ | ⟨g, cap, cur, rfl, hbg, hg, hnc, hcm, hcs, htake⟩
  · have hx : xs = [] := List.eq_nil_of_length_eq_zero (by simpa using hown.1)
    subst hx
    by_cases hm : m = 0
    · subst hm
      have hn : news = [] := List.eq_nil_of_length_eq_zero (by simpa using hl)
      subst hn
      refine ⟨.slice none 0 0, w, ?_, World.ownsRow_nil w base e i.size, ⟨rfl, rfl, rfl, Nat.le_refl _, fun _ _ _ => rfl⟩, Or.inl rfl⟩
      simp [Builtin.append_, run_underlying ht, sizeOf, typeInfo, hi, Builtin.lenOf, Builtin.firstCells, loadCells, loadCellsFrom]
    · have hb0 := hbytes 0 (by omega)
      rw [nextslicecap_zero (by omega)] at hb0
      simp only [Nat.zero_add] at hb0
      have hr := run_append_nil (P := P) w t ty e i z ht hi hz a m c news hl hnews (by omega) (by omega) hb0
      have hgr := grown 0 (by omega) (Value.ownBlock (.slice none 0 0))
      simp only [Nat.zero_add, List.nil_append, Array.empty_append] at hgr ⊢
      exact ⟨_, _, hr, hgr.1, hgr.2, Or.inr rfl⟩
  · by_cases hroom : n + m ≤ cap
    · have hfit : n * i.size + news.length ≤ cur.size := by rw [hl, hcs, ← Nat.add_mul]; exact Nat.mul_le_mul_right _ hroom
      have hr := run_append_room (P := P) w t ty e i ht hi g n cap cur hg a m c news hl hnews h1 hroom hfit
      refine ⟨_, _, hr, ⟨hlen, .inr ⟨g, cap, _, rfl, hbg, setRow_heap w g cur _ e _ hg, hroom, hcm, ?_, ?_⟩⟩, ⟨rfl, rfl, rfl, by simp, fun k _ hk => setRow_other w g k _ (fun e => hk (by simp [Value.ownBlock, e]))⟩, Or.inl rfl⟩
      · simp only [List.size_toArray, List.length_append, List.length_take, List.length_drop, Array.length_toList]
        omega
      · rw [htake, ← hlen]
        exact List.take_left
    · have holds : ∀ j u, xs[j]? = some u → w.cell? ((⟨g, 0, none⟩ : Addr).add j) = some u := hown.cells (g := g) rfl
      have hr := run_append_grow (P := P) w t ty e i z ht hi hz ⟨g, 0, none⟩ n cap xs hown.1 holds a m c news hl hnews (by omega) (by omega) (hbytes cap (by omega))
      have hgr := grown cap (by omega) (Value.ownBlock (.slice (some ⟨g, 0, none⟩) n cap))
      exact ⟨_, _, hr, hgr.1, hgr.2, Or.inr rfl⟩

theorem run_append_src (base : Nat) (t ty e : TypeId) (i : TypeInfo) (z : Value) (size bytes : Nat) (ht : P.underlying t = some (.slice e)) (hi : P.info? e = some i) (hz : i.zero = some z)
    (hsize : i.size = size) (hby : i.bytes = bytes) (hzs : z.cells.size = size) (hsz : 0 < size)
    (v : Value) (n : Nat) (xs : List Value) (hown : w.ownsRow base e size v n xs)
    (A : Option Addr) (m c : Nat) (news : List Value) (hl : news.length = m * size) (hr : Src w A news) (h1 : ∀ u ∈ news, u.oneCell' = true)
    (h63 : n + m ≤ maxLen) (hbytes : ∀ old, old < n + m → Builtin.nextslicecap (n + m) old * bytes ≤ 281474976710656) (hbase : base ≤ w.heap.size) :
    ∃ v' w', (Builtin.append_ #[t, t] ty #[v, .slice A m c]).run P w = .ok v' w' ∧ w'.ownsRow base e size v' (n + m) (xs ++ news) ∧ w.grownBy w' v.ownBlock ∧
      (v'.ownBlock = v.ownBlock ∨ v'.ownBlock = some w.heap.size) := by
  rcases A with _ | ad
  · have hn : news = [] := by
      rcases hr with h | ⟨_, _, h, _⟩
      · exact h
      · cases h
    subst hn
    have hm : m = 0 := by
      rcases Nat.eq_zero_or_pos m with h0 | h0
      · exact h0
      · have := Nat.mul_pos h0 hsz; simp at hl; omega
    subst hm
    exact ⟨v, w, run_append_of_nil w base t ty e i size ht hi v n xs hown c, by simpa using hown, World.grownBy.refl w _, .inl rfl⟩
  · have hcells : ∀ j u, news[j]? = some u → w.cell? (ad.add j) = some u := by
      intro j u hu
      obtain ⟨b, off, h, hc⟩ := hr.at_ j u hu
      injection h with h
      subst h
      rw [addr_add]
      exact hc
    exact run_append_addr (P := P) w base t ty e i z size bytes ht hi hz hsize hby hzs hsz v n xs hown ad m c news hl hcells h1 h63 hbytes hbase

theorem wp_append_src {o : Oper} {a : Act} {K : Act → World → Prop} {Q : Exit → Act → World → Prop} (s x : Operand) (t : TypeId)
    (ho : o.op = .call { callee := .builtin .append, args := #[s, x], argTypes := #[t, t] })
    (base : Nat) (e : TypeId) (i : TypeInfo) (z : Value) (size bytes : Nat) (ht : P.underlying t = some (.slice e)) (hi : P.info? e = some i) (hz : i.zero = some z)
    (hsize : i.size = size) (hby : i.bytes = bytes) (hzs : z.cells.size = size) (hsz : 0 < size)
    (v : Value) (n : Nat) (xs : List Value) (hs : a.eval s = v) (hown : w.ownsRow base e size v n xs)
    (A : Option Addr) (m c : Nat) (news : List Value) (hx : a.eval x = .slice A m c) (hl : news.length = m * size) (hr : Src w A news) (h1 : ∀ u ∈ news, u.oneCell' = true)
    (h63 : n + m ≤ maxLen) (hbytes : ∀ old, old < n + m → Builtin.nextslicecap (n + m) old * bytes ≤ 281474976710656) (hbase : base ≤ w.heap.size)
    (h : ∀ v' w', w'.ownsRow base e size v' (n + m) (xs ++ news) → w.grownBy w' v.ownBlock → (v'.ownBlock = v.ownBlock ∨ v'.ownBlock = some w.heap.size) → K (a.put o.dst v') w') : o.wp P a w K Q := by
  obtain ⟨v', w', hrun, h2, h3, h4⟩ := run_append_src (P := P) w base t o.type e i z size bytes ht hi hz hsize hby hzs hsz v n xs hown A m c news hl hr h1 h63 hbytes hbase
  unfold Oper.wp execOp
  simp only [ho, resolve, invoke, builtin, Sem.run_bind, Sem.run_pure, Result.andThen_ok, List.map_toArray, List.map_cons, List.map_nil, hs, hx, hrun]
  exact h v' w' h2 h3 h4

theorem wpList_append_src {ops : Array Oper} {rest : List Oper} {o : Oper} {a : Act} {Q : Exit → Act → World → Prop} (hgd : o.guard = none) (s x : Operand) (t : TypeId)
    (ho : o.op = .call { callee := .builtin .append, args := #[s, x], argTypes := #[t, t] })
    (base : Nat) (e : TypeId) (i : TypeInfo) (z : Value) (size bytes : Nat) (ht : P.underlying t = some (.slice e)) (hi : P.info? e = some i) (hz : i.zero = some z)
    (hsize : i.size = size) (hby : i.bytes = bytes) (hzs : z.cells.size = size) (hsz : 0 < size)
    (v : Value) (n : Nat) (xs : List Value) (hs : a.eval s = v) (hown : w.ownsRow base e size v n xs)
    (A : Option Addr) (m c : Nat) (news : List Value) (hx : a.eval x = .slice A m c) (hl : news.length = m * size) (hr : Src w A news) (h1 : ∀ u ∈ news, u.oneCell' = true)
    (h63 : n + m ≤ maxLen) (hbytes : ∀ old, old < n + m → Builtin.nextslicecap (n + m) old * bytes ≤ 281474976710656) (hbase : base ≤ w.heap.size)
    (h : ∀ v' w', w'.ownsRow base e size v' (n + m) (xs ++ news) → w.grownBy w' v.ownBlock → (v'.ownBlock = v.ownBlock ∨ v'.ownBlock = some w.heap.size) → wpList P ops Q rest (a.put o.dst v') w') : wpList P ops Q (o :: rest) a w :=
  wpList_plain hgd fun _ hK => wp_append_src w s x t ho base e i z size bytes ht hi hz hsize hby hzs hsz v n xs hs hown A m c news hx hl hr h1 h63 hbytes hbase fun v' w' h2 h3 h4 => hK _ _ (h v' w' h2 h3 h4)

theorem step_append_src {ops : Array Oper} {o : Oper} {a : Act} {K : Act → World → Prop} {Q : Exit → Act → World → Prop} {E : Prop} (hgd : o.guard = none) (s x : Operand) (t : TypeId)
    (ho : o.op = .call { callee := .builtin .append, args := #[s, x], argTypes := #[t, t] })
    (base : Nat) (e : TypeId) (i : TypeInfo) (z : Value) (size bytes : Nat) (ht : P.underlying t = some (.slice e)) (hi : P.info? e = some i) (hz : i.zero = some z)
    (hsize : i.size = size) (hby : i.bytes = bytes) (hzs : z.cells.size = size) (hsz : 0 < size)
    (v : Value) (n : Nat) (xs : List Value) (hs : a.eval s = v) (hown : w.ownsRow base e size v n xs)
    (A : Option Addr) (m c : Nat) (news : List Value) (hx : a.eval x = .slice A m c) (hl : news.length = m * size) (hr : Src w A news) (h1 : ∀ u ∈ news, u.oneCell' = true)
    (h63 : n + m ≤ maxLen) (hbytes : ∀ old, old < n + m → Builtin.nextslicecap (n + m) old * bytes ≤ 281474976710656) (hbase : base ≤ w.heap.size)
    (h : ∀ v' w', w'.ownsRow base e size v' (n + m) (xs ++ news) → w.grownBy w' v.ownBlock → (v'.ownBlock = v.ownBlock ∨ v'.ownBlock = some w.heap.size) → K (a.put o.dst v') w') :
    if Region.wanted o (yielded ops a.tmps) = true then Oper.wp P o a w K Q else E := by
  have hw : Region.wanted o (yielded ops a.tmps) = true := by simp [Region.wanted, hgd]
  rw [if_pos hw]
  exact wp_append_src w s x t ho base e i z size bytes ht hi hz hsize hby hzs hsz v n xs hs hown A m c news hx hl hr h1 h63 hbytes hbase h
end
end Go.Proofs.YtljmklohgpaopaaGreatDoor
