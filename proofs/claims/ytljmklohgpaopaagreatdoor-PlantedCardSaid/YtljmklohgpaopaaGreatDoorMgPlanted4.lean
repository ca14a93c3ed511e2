/- Plain: a page's text. No program in sight. Only these blocks have changed: laws over any program. The walks of the reference's Path and Deep, and of sums.Depth. The walks of sums.path and Path. The walk of the reference's Climb. The walks of sums.climb and Climb. The walk of sums.Climb. errors.As walked: a TableError into a TableError's pointer; a Kind into a TableError's pointer (no); a Kind into a Kind. errors.As walked: a TableError into a TableError's pointer; a Kind into a TableError's pointer (no); a Kind into a Kind. errors.Is by its contracts, at what the program hands it: nil, a Kind, a TableError, held against a Kind. api.Told and plain's told by their contracts: nil, a Kind, a table's error. The law Names walked: it returns true. The walks of the harness's is and bare, of plain's hash and Root. The walks of plain's Path and Climb. The walks of the harness's lentAll and stayAll. -/
import Derived.Test.YtljmklohgpaopaaGreatDoorMgPlanted3
import Derived.Test.YtljmklohgpaopaaGreatDoorMgPlanted1
import Derived.RegionTactic
import Derived.Deep.QuietTactic
import Derived.BigQuiet
set_option linter.unusedVariables false
set_option linter.unusedSimpArgs false

namespace Go.Proofs.YtljmklohgpaopaaGreatDoor
namespace Pl

def encPr (p : Pr) : List UInt8 := short p.key ++ short p.val
def leafText (ps : List Pr) : List UInt8 := 108 :: (be 2 ps.length ++ ps.flatMap encPr)
def encKid (x : Key × Nat) : List UInt8 := short x.1 ++ be 4 x.2
def innerText (ks : List Key) (ats : List Nat) : List UInt8 := 105 :: UInt8.ofNat ks.length :: (be 4 (ats.headD 0) ++ (ks.zip (ats.drop 1)).flatMap encKid)
def padded (t : List UInt8) : List UInt8 := t ++ zeros (256 - t.length)
end Pl
end Go.Proofs.YtljmklohgpaopaaGreatDoor

namespace Go.Proofs.YtljmklohgpaopaaGreatDoor
open Go.RowKit

/-- Of the blocks that were there only those of F may have changed. -/
structure Only (F : Nat → Prop) (w w' : World) : Prop where
  os : w'.os = w.os
  tape : w'.tape = w.tape
  output : w'.output = w.output
  size : w.heap.size ≤ w'.heap.size
  block : ∀ k, k < w.heap.size → ¬ F k → w'.heap[k]? = w.heap[k]?

section
variable {F G : Nat → Prop} {a b c w w' : World}
theorem Only.refl (F : Nat → Prop) (w : World) : Only F w w := ⟨rfl, rfl, rfl, Nat.le_refl _, fun _ _ _ => rfl⟩
theorem Only.trans (h : Only F a b) (k : Only G b c) (hG : ∀ x, x < a.heap.size → G x → F x) : Only F a c :=
  ⟨k.os.trans h.os, k.tape.trans h.tape, k.output.trans h.output, Nat.le_trans h.size k.size, fun i hi hn => (k.block i (Nat.lt_of_lt_of_le hi h.size) (fun hg => hn (hG i hi hg))).trans (h.block i hi hn)⟩
theorem Only.trans' (h : Only F a b) (k : Only F b c) : Only F a c := h.trans k (fun _ _ hx => hx)
theorem Only.mono (h : Only F a b) (hG : ∀ x, x < a.heap.size → F x → G x) : Only G a b := ⟨h.os, h.tape, h.output, h.size, fun i hi hn => h.block i hi (fun hf => hn (hG i hi hf))⟩
theorem Only.drew (h : Only F a w) : Only F a w.drew := ⟨h.os, h.tape, h.output, h.size, h.block⟩
theorem Only.drewN (h : Only F a w) (n : Nat) : Only F a (w.drewN n) := ⟨h.os, h.tape, h.output, h.size, h.block⟩
theorem Only.undrew (h : Only F a.drew w) : Only F a w := ⟨h.os, h.tape, h.output, h.size, h.block⟩
theorem Only.alloc (h : Only F a w) (o : Obj) : Only F a (w.alloc o) :=
  ⟨h.os, h.tape, h.output, Nat.le_trans h.size (by simp), fun i hi hn => (Below.heap_alloc w o i (Nat.lt_of_lt_of_le hi h.size)).trans (h.block i hi hn)⟩
theorem Only.setCell (h : Only F a w) {p : Addr} (hp : F p.block ∨ a.heap.size ≤ p.block) (u : Value) : Only F a (w.setCell p u) :=
  ⟨h.os, h.tape, h.output, by simpa [World.setCell] using h.size, fun i hi hn => (Below.heap_setCell w p u i (by
    rintro rfl
    rcases hp with hp | hp
    · exact hn hp
    · omega)).trans (h.block i hi hn)⟩
theorem Only.of_below (h : Below a.heap.size a w) (F : Nat → Prop) : Only F a w := ⟨h.os, h.tape, h.output, h.size, fun i hi _ => h.block i hi⟩
theorem Only.below (h : Only F a w) (k : Below w.heap.size w w') : Only F a w' := h.trans (Only.of_below k (fun _ => False)) (fun _ _ hx => hx.elim)
theorem Only.toBelow (h : Only F a w) {B : Nat} (hB : B ≤ a.heap.size) (hF : ∀ k, k < B → ¬ F k) : Below B a w := ⟨h.os, h.tape, h.output, h.size, fun k hk => h.block k (Nat.lt_of_lt_of_le hk hB) (hF k hk)⟩
theorem Only.blk {g : Nat} {t : TypeId} {cs : List Value} (h : Only F w w') (hb : Blk w g t cs) (hg : ¬ F g) : Blk w' g t cs := (h.block g hb.lt hg).trans hb
theorem Only.cell (h : Only F w w') {p : Addr} {u : Value} (hp : w.cell? p = some u) (hn : ¬ F p.block) : w'.cell? p = some u :=
  (World.cell?_of_block (h.block p.block (World.block_lt_of_cell? _ _ hp) hn)).trans hp
theorem Only.src {A : Option Addr} {cs : List Value} (h : Only F w w') (hs : Src w A cs) (hA : ∀ p, A = some p → ¬ F p.block) : Src w' A cs := by
  rcases hs with hs | ⟨b, off, rfl, hs⟩
  · exact .inl hs
  · exact .inr ⟨b, off, rfl, fun j u hu => h.cell (hs j u hu) (hA ⟨b, off, none⟩ rfl)⟩
theorem Only.own {base n size : Nat} {e : TypeId} {v : Value} {xs : List Value} (h : Only F w w') (hs : w.ownsRow base e size v n xs) (hv : ∀ g, v.ownBlock = some g → ¬ F g) : w'.ownsRow base e size v n xs := by
  refine ⟨hs.1, ?_⟩
  rcases hs.2 with hn | ⟨g, cap, cur, rfl, hb, hg, rest⟩
  · exact .inl hn
  · refine .inr ⟨g, cap, cur, rfl, hb, ?_, rest⟩
    rw [h.block g (Array.getElem?_eq_some_iff.1 hg).1 (hv g rfl)]
    exact hg
end
end Go.Proofs.YtljmklohgpaopaaGreatDoor

namespace Go.Proofs.YtljmklohgpaopaaGreatDoor
open Go.RowKit

end Go.Proofs.YtljmklohgpaopaaGreatDoor

namespace Go.Proofs.YtljmklohgpaopaaGreatDoor
open Go.RowKit

theorem own_below {w w' : World} {base : Nat} {e : TypeId} {size n : Nat} {v : Value} {xs : List Value} (h : w.ownsRow base e size v n xs) (hb : Below w.heap.size w w') : w'.ownsRow base e size v n xs := by
  refine h.kept (only_of_below hb none) ?_
  cases v.ownBlock
  · exact .inl rfl
  · exact .inr (by simp)

end Go.Proofs.YtljmklohgpaopaaGreatDoor

namespace Go.Proofs.YtljmklohgpaopaaGreatDoor
open Go.RowKit

def tstr (l : List UInt8) : ByteArray := ⟨l.toArray⟩
theorem tstr_size (l : List UInt8) : (tstr l).size = l.length := by show l.toArray.size = _; simp
theorem tstr_list (l : List UInt8) : (tstr l).data.toList = l := rfl
theorem tstr_append (a b : List UInt8) : tstr a ++ tstr b = tstr (a ++ b) := by
  have : (tstr a ++ tstr b).data = (tstr (a ++ b)).data := by
    apply Array.toList_inj.1
    simp [tstr_list]
  cases h1 : tstr a ++ tstr b; cases h2 : tstr (a ++ b); rw [h1, h2] at this; simpa using this
theorem run_cat (w : World) (a b : List UInt8) (h : a.length + b.length ≤ 9223372036854775807) : (Op.stringOp .add (tstr a) (tstr b)).run Tryz.prog w = .ok (.string (tstr (a ++ b))) w := by
  rw [run_string_add_sum w _ _ (by rw [tstr_size, tstr_size]; exact h), tstr_append]
theorem tstr_take (l : List UInt8) (k : Nat) : (tstr l).extract 0 k = tstr (l.take k) := by
  have : ((tstr l).extract 0 k).data = (tstr (l.take k)).data := by
    apply Array.toList_inj.1
    simp [tstr_list, tstr]
  cases h1 : (tstr l).extract 0 k; cases h2 : tstr (l.take k); rw [h1, h2] at this; simpa using this
theorem tstr_drop (l : List UInt8) (k : Nat) : (tstr l).extract k l.length = tstr (l.drop k) := by
  have : ((tstr l).extract k l.length).data = (tstr (l.drop k)).data := by
    apply Array.toList_inj.1
    simp [tstr_list, tstr]
    rw [List.take_of_length_le (by simp)]
  cases h1 : (tstr l).extract k l.length; cases h2 : tstr (l.drop k); rw [h1, h2] at this; simpa using this
theorem run_str_take (w : World) (l : List UInt8) (k : Int) (n : Nat) (hk : k = n) (hn : n ≤ l.length) :
    (Instr.slice 9 (.string (tstr l)) none (some (.int .i64 k)) none).run Tryz.prog w = .ok (.string (tstr (l.take n))) w := by
  subst hk
  rw [run_slice_string_to_if w 9 (tstr l) .i64 n Tryz.underlying9, if_pos ⟨by omega, by rw [tstr_size]; omega⟩, Int.toNat_natCast, tstr_take]
theorem run_str_drop (w : World) (l : List UInt8) (k : Int) (n : Nat) (hk : k = n) (hn : n ≤ l.length) :
    (Instr.slice 9 (.string (tstr l)) (some (.int .i64 k)) none none).run Tryz.prog w = .ok (.string (tstr (l.drop n))) w := by
  subst hk
  rw [run_slice_string_from_if w 9 (tstr l) .i64 n Tryz.underlying9, if_pos ⟨by omega, by rw [tstr_size]; omega⟩, Int.toNat_natCast, tstr_size, tstr_drop]

end Go.Proofs.YtljmklohgpaopaaGreatDoor

namespace Go.Proofs.YtljmklohgpaopaaGreatDoor
open Go.RowKit

end Go.Proofs.YtljmklohgpaopaaGreatDoor

namespace Go.Proofs.YtljmklohgpaopaaGreatDoor
open Go.RowKit

end Go.Proofs.YtljmklohgpaopaaGreatDoor

namespace Go.Proofs.YtljmklohgpaopaaGreatDoor
open Go.RowKit Go.Extern.Stop Go.Stop Go.Extern

theorem Tryz.elemOfPP (w : World) : (Rtype.elem? 214).run Tryz.prog w = .ok (some 212) w := by kernel_rfl
theorem Tryz.mkP (p : Addr) (w : World) : (ReflectliteValue.mk 212 p ReflectliteValue.flagAddr).run Tryz.prog w = .ok (.agg #[.pointer (some ⟨2, 212, none⟩), .pointer (some p), .int .u64 406]) w := by kernel_rfl
theorem Tryz.elemVPP (a p : Addr) (W : World) (ha : W.cell? a = some (.pointer (some p))) :
    (ReflectliteValue.method (ReflectliteValue.valueError "reflectlite.Value.Elem" 0) ReflectliteValue.elem #[.agg #[.pointer (some ⟨2, 214, none⟩), .pointer (some a), .int .u64 150]]).run Tryz.prog W
      = .ok (.agg #[.pointer (some ⟨2, 212, none⟩), .pointer (some p), .int .u64 406]) W := by
  rw [rlm]
  simp only [Sem.run_bind, Tryz.partsPP, Result.andThen]
  simp [ReflectliteValue.elem, loadVar, isAgg, underlying, Tryz.underlying214, ha, Result.andThen, Tryz.elemOfPP, Tryz.mkP]
theorem rls (v x : Value) : ReflectliteValue.set #[v, x] = (do
    let (some (dst, a, fl), some (src, b, _)) := (← ReflectliteValue.parts v, ← ReflectliteValue.parts x)
      | unsupported (.noEntry "extern/(internal/reflectlite.Value).Set.zeroValue")
    if fl / ReflectliteValue.flagAddr % 2 == 0 then unsupported (.noEntry "extern/(internal/reflectlite.Value).Set.unaddressable")
    let val ← loadVar src b
    if ← Rtype.directlyAssignable dst src then storeVar dst a val
    else if ← Rtype.implements dst src then
      if (← Rtype.kind src) == 20 then
        match val with
        | .nilIface => unsupported (.noEntry "extern/reflectlite: a nil value of one interface type handed on as a value of another")
        | _ => storeVar dst a val
      else storeVar dst a (.iface src val)
    else panicString ("reflectlite.Set: value of type " ++ (← Rtype.spelt src) ++ " is not assignable to type " ++ (← Rtype.spelt dst))
    pure (.tuple #[])) := rfl
theorem Tryz.partsPa (a : Addr) (w : World) : (ReflectliteValue.parts (.agg #[.pointer (some ⟨2, 212, none⟩), .pointer (some a), .int .u64 406])).run Tryz.prog w = .ok (some (212, a, 406)) w := by kernel_rfl
theorem Tryz.partsP (a : Addr) (w : World) : (ReflectliteValue.parts (.agg #[.pointer (some ⟨2, 212, none⟩), .pointer (some a), .int .u64 150])).run Tryz.prog w = .ok (some (212, a, 150)) w := by kernel_rfl
theorem Tryz.directP (w : World) : (Rtype.directlyAssignable 212 212).run Tryz.prog w = .ok true w := by kernel_rfl
theorem Tryz.setP (ta b e : Addr) (old : Value) (W : World) (hb : W.cell? b = some (.pointer (some e))) (ht : W.cell? ta = some old) (hf : W.frozen? ta = false) :
    (ReflectliteValue.set #[.agg #[.pointer (some ⟨2, 212, none⟩), .pointer (some ta), .int .u64 406], .agg #[.pointer (some ⟨2, 212, none⟩), .pointer (some b), .int .u64 150]]).run Tryz.prog W
      = .ok (.tuple #[]) (W.setCell ta (.pointer (some e))) := by
  rw [rls]
  simp only [Sem.run_bind, Tryz.partsPa, Tryz.partsP, Result.andThen]
  simp [ReflectliteValue.flagAddr, loadVar, isAgg, underlying, Tryz.underlying212, hb, Result.andThen, Tryz.directP, storeVar, Value.cells, storeCells, Addr.add]
  rw [run_store Tryz.prog W ta _ _ (by rfl)]
  simp [ht, hf]

theorem Tryz.elemOfPK (w : World) : (Rtype.elem? 217).run Tryz.prog w = .ok (some 26) w := by kernel_rfl
theorem Tryz.mkK (p : Addr) (w : World) : (ReflectliteValue.mk 26 p ReflectliteValue.flagAddr).run Tryz.prog w = .ok (.agg #[.pointer (some ⟨2, 26, none⟩), .pointer (some p), .int .u64 386]) w := by kernel_rfl
theorem Tryz.elemVPK (a p : Addr) (W : World) (ha : W.cell? a = some (.pointer (some p))) :
    (ReflectliteValue.method (ReflectliteValue.valueError "reflectlite.Value.Elem" 0) ReflectliteValue.elem #[.agg #[.pointer (some ⟨2, 217, none⟩), .pointer (some a), .int .u64 150]]).run Tryz.prog W
      = .ok (.agg #[.pointer (some ⟨2, 26, none⟩), .pointer (some p), .int .u64 386]) W := by
  rw [rlm]
  simp only [Sem.run_bind, Tryz.partsPK, Result.andThen]
  simp [ReflectliteValue.elem, loadVar, isAgg, underlying, Tryz.underlying217, ha, Result.andThen, Tryz.elemOfPK, Tryz.mkK]
theorem Tryz.partsKa (a : Addr) (w : World) : (ReflectliteValue.parts (.agg #[.pointer (some ⟨2, 26, none⟩), .pointer (some a), .int .u64 386])).run Tryz.prog w = .ok (some (26, a, 386)) w := by kernel_rfl
theorem Tryz.partsK (a : Addr) (w : World) : (ReflectliteValue.parts (.agg #[.pointer (some ⟨2, 26, none⟩), .pointer (some a), .int .u64 130])).run Tryz.prog w = .ok (some (26, a, 130)) w := by kernel_rfl
theorem Tryz.directK (w : World) : (Rtype.directlyAssignable 26 26).run Tryz.prog w = .ok true w := by kernel_rfl
theorem Tryz.setK (ta b : Addr) (k : Int) (old : Value) (W : World) (hb : W.cell? b = some (.int .i64 k)) (ht : W.cell? ta = some old) (hf : W.frozen? ta = false) :
    (ReflectliteValue.set #[.agg #[.pointer (some ⟨2, 26, none⟩), .pointer (some ta), .int .u64 386], .agg #[.pointer (some ⟨2, 26, none⟩), .pointer (some b), .int .u64 130]]).run Tryz.prog W
      = .ok (.tuple #[]) (W.setCell ta (.int .i64 k)) := by
  rw [rls]
  simp only [Sem.run_bind, Tryz.partsKa, Tryz.partsK, Result.andThen]
  simp [ReflectliteValue.flagAddr, loadVar, isAgg, underlying, Tryz.underlying26, hb, Result.andThen, Tryz.directK, storeVar, Value.cells, storeCells, Addr.add]
  rw [run_store Tryz.prog W ta _ _ (by rfl)]
  simp [ht, hf]

/-! what errors.as's assertions find at a Kind -/
theorem Tryz.noAsK (v : Value) (xT : TypeId) (w : World) : (Instr.typeAssert (.iface 26 v) xT 305 true).run Tryz.prog w = .ok (.tuple #[.nilIface, .bool false]) w := run_typeAssert_lacksB Tryz.underlying305 (by kernel_rfl) (by kernel_rfl) v xT w
theorem Tryz.noUnwrapK (v : Value) (xT : TypeId) (w : World) : (Instr.typeAssert (.iface 26 v) xT 277 true).run Tryz.prog w = .ok (.tuple #[.nilIface, .bool false]) w := run_typeAssert_lacksB Tryz.underlying277 (by kernel_rfl) (by kernel_rfl) v xT w
theorem Tryz.noUnwrapsK (v : Value) (xT : TypeId) (w : World) : (Instr.typeAssert (.iface 26 v) xT 278 true).run Tryz.prog w = .ok (.tuple #[.nilIface, .bool false]) w := run_typeAssert_lacksB Tryz.underlying278 (by kernel_rfl) (by kernel_rfl) v xT w

theorem x123 (args : Array Value) (w : World) : (callFunc 154 args).run Tryz.prog w = (((fun args => ReflectliteValue.unpack (args.getD 0 (.tuple #[]))) args : Sem Value).run Tryz.prog w).andThen fun v w' => .ok (.value v) w' :=
  @run_callFunc_extern Tryz.prog 154 _ (fun args => ReflectliteValue.unpack (args.getD 0 (.tuple #[]))) Tryz.func154 (by kernel_rfl) (by kernel_rfl) (by kernel_rfl) (by kernel_rfl) args w
theorem x124 (args : Array Value) (w : World) : (callFunc 155 args).run Tryz.prog w = (((ReflectliteValue.methodAny (ReflectliteValue.valueError "reflectlite.Value.Type" 0) (fun t _ _ _ => ReflectliteType.toType t)) args : Sem Value).run Tryz.prog w).andThen fun v w' => .ok (.value v) w' :=
  @run_callFunc_extern Tryz.prog 155 _ (ReflectliteValue.methodAny (ReflectliteValue.valueError "reflectlite.Value.Type" 0) (fun t _ _ _ => ReflectliteType.toType t)) Tryz.func155 (by kernel_rfl) (by kernel_rfl) (by kernel_rfl) (by kernel_rfl) args w
theorem x125 (args : Array Value) (w : World) : (callFunc 156 args).run Tryz.prog w = (((ReflectliteValue.method (ReflectliteValue.valueError "reflectlite.Value.IsNil" 0) ReflectliteValue.isNil) args : Sem Value).run Tryz.prog w).andThen fun v w' => .ok (.value v) w' :=
  @run_callFunc_extern Tryz.prog 156 _ (ReflectliteValue.method (ReflectliteValue.valueError "reflectlite.Value.IsNil" 0) ReflectliteValue.isNil) Tryz.func156 (by kernel_rfl) (by kernel_rfl) (by kernel_rfl) (by kernel_rfl) args w
theorem x146 (args : Array Value) (w : World) : (callFunc 211 args).run Tryz.prog w = (((ReflectliteType.abiMethod fun t => do pure (.int .u8 (← Rtype.kind t))) args : Sem Value).run Tryz.prog w).andThen fun v w' => .ok (.value v) w' :=
  @run_callFunc_extern Tryz.prog 211 _ (ReflectliteType.abiMethod fun t => do pure (.int .u8 (← Rtype.kind t))) Tryz.func211 (by kernel_rfl) (by kernel_rfl) (by kernel_rfl) (by kernel_rfl) args w
theorem x162 (args : Array Value) (w : World) : (callFunc 227 args).run Tryz.prog w = (((ReflectliteType.method ReflectliteType.elem) args : Sem Value).run Tryz.prog w).andThen fun v w' => .ok (.value v) w' :=
  @run_callFunc_extern Tryz.prog 227 _ (ReflectliteType.method ReflectliteType.elem) Tryz.func227 (by kernel_rfl) (by kernel_rfl) (by kernel_rfl) (by kernel_rfl) args w
theorem x163 (args : Array Value) (w : World) : (callFunc 228 args).run Tryz.prog w = (((ReflectliteType.relation "Implements" ReflectliteType.implements_) args : Sem Value).run Tryz.prog w).andThen fun v w' => .ok (.value v) w' :=
  @run_callFunc_extern Tryz.prog 228 _ (ReflectliteType.relation "Implements" ReflectliteType.implements_) Tryz.func228 (by kernel_rfl) (by kernel_rfl) (by kernel_rfl) (by kernel_rfl) args w
theorem x99 (args : Array Value) (w : World) : (callFunc 112 args).run Tryz.prog w = ((ReflectliteType.typeOf args : Sem Value).run Tryz.prog w).andThen fun v w' => .ok (.value v) w' :=
  @run_callFunc_extern Tryz.prog 112 _ ReflectliteType.typeOf Tryz.func112 (by kernel_rfl) (by kernel_rfl) (by kernel_rfl) (by kernel_rfl) args w
theorem x160 (args : Array Value) (w : World) : (callFunc 225 args).run Tryz.prog w = (((ReflectliteType.relation "AssignableTo" ReflectliteType.assignableTo) args : Sem Value).run Tryz.prog w).andThen fun v w' => .ok (.value v) w' :=
  @run_callFunc_extern Tryz.prog 225 _ (ReflectliteType.relation "AssignableTo" ReflectliteType.assignableTo) Tryz.func225 (by kernel_rfl) (by kernel_rfl) (by kernel_rfl) (by kernel_rfl) args w
theorem x129 (args : Array Value) (w : World) : (callFunc 181 args).run Tryz.prog w = (((ReflectliteValue.method (ReflectliteValue.valueError "reflectlite.Value.Elem" 0) ReflectliteValue.elem) args : Sem Value).run Tryz.prog w).andThen fun v w' => .ok (.value v) w' :=
  @run_callFunc_extern Tryz.prog 181 _ (ReflectliteValue.method (ReflectliteValue.valueError "reflectlite.Value.Elem" 0) ReflectliteValue.elem) Tryz.func181 (by kernel_rfl) (by kernel_rfl) (by kernel_rfl) (by kernel_rfl) args w
theorem x130 (args : Array Value) (w : World) : (callFunc 182 args).run Tryz.prog w = ((ReflectliteValue.set args : Sem Value).run Tryz.prog w).andThen fun v w' => .ok (.value v) w' :=
  @run_callFunc_extern Tryz.prog 182 _ ReflectliteValue.set Tryz.func182 (by kernel_rfl) (by kernel_rfl) (by kernel_rfl) (by kernel_rfl) args w

end Go.Proofs.YtljmklohgpaopaaGreatDoor

namespace Go.Proofs.YtljmklohgpaopaaGreatDoor
open Go.RowKit Go.Extern.Stop Go.Stop Go.Extern


set_option maxHeartbeats 4000000 in
set_option maxRecDepth 100000 in
theorem as_P_hit (e : Addr) (g : Nat) (old : Value) (w : World) (hG : GE w) (hb : Blk w g 212 [old]) :
    Calls Tryz.prog 111 #[.iface 212 (.pointer (some e)), .iface 214 (.pointer (some ⟨g, 0, none⟩))] w fun ev w' => ev = .returned (.bool true) ∧ w.grownBy w' (some g) ∧ Blk w' g 212 [.pointer (some e)] := by
  have hlt : g < w.heap.size := hb.lt
  have h0 : w.cell? ⟨1, 0, none⟩ = some (.iface 272 (.agg #[.pointer (some ⟨2, 83, none⟩)])) := hG
  have hlt0 := World.block_lt_of_cell? w _ h0
  dsimp only at hlt0
  have hlt1 : 0 < w.heap.size := by omega
  have hlt2 : 1 < w.heap.size + 1 := by omega
  have hlt3 : 1 < w.heap.size + 1 + 1 := by omega
  have hz := World.block_lt_of_cell? _ _ h0
  have y1 := x123
  have y2 := x124
  have y3 := x125
  have y4 := x146
  have y5 := x162
  have y6 := x163
  have y7 := x99
  have y8 := x160
  have y9 := x129
  have y10 := x130
  have f1 := Tryz.valueOfPP
  have f2 := Tryz.typePP
  have f3 := Tryz.methodKind
  have f4 := Tryz.kindPP
  have f5 := Tryz.kindP
  have f6 := Tryz.methodElem
  have f7 := Tryz.methodImplements
  have f8 := Tryz.methodAssignableTo
  have f9 := Tryz.elemPP
  have f10 := Tryz.implementsP
  have f11 := Tryz.typeOfP
  have f12 := Tryz.assignablePP
  have f13 := Tryz.valueOfP
  have f14 := Tryz.isNilPP
  have el := Tryz.elemVPP ⟨w.heap.size, 0, none⟩ ⟨g, 0, none⟩ (((w.alloc (.cells #[.pointer (some ⟨g, 0, none⟩)] 214)).alloc (.cells #[.pointer (some ⟨2, 214, none⟩), .pointer (some ⟨w.heap.size, 0, none⟩), .int .u64 150] 264)).alloc (.cells #[.pointer (some ⟨2, 214, none⟩), .pointer (some ⟨w.heap.size, 0, none⟩), .int .u64 150] 264))
    (by rw [World.cell?_alloc_lt _ _ ⟨w.heap.size, 0, none⟩ (by simp; omega), World.cell?_alloc_lt _ _ ⟨w.heap.size, 0, none⟩ (by simp)]; simp)
  have st := Tryz.setP ⟨g, 0, none⟩ ⟨w.heap.size + 1 + 1 + 1, 0, none⟩ e old ((((w.alloc (.cells #[.pointer (some ⟨g, 0, none⟩)] 214)).alloc (.cells #[.pointer (some ⟨2, 214, none⟩), .pointer (some ⟨w.heap.size, 0, none⟩), .int .u64 150] 264)).alloc (.cells #[.pointer (some ⟨2, 214, none⟩), .pointer (some ⟨w.heap.size, 0, none⟩), .int .u64 150] 264)).alloc (.cells #[.pointer (some e)] 212))
    (by rw [World.cell?_alloc_at _ _ _ _ (by simp)]; rfl)
    (by rw [((((hb.alloc _).alloc _).alloc _).alloc _).cell 0]; rfl)
    (((((hb.alloc _).alloc _).alloc _).alloc _).frozen 0)
  have hc := hb.cell 0
  have hf := hb.frozen 0
  simp only [List.getElem?_cons_zero] at hc
  go_enter Tryz.func111, Tryz.ntmps111
  go_wp2
  refine wp_loop_rounds 1 ?_
  rw [rounds_succ]
  go_wp2
  go_ret
  exact ⟨rfl, only_setCell (only_alloc (only_alloc (only_alloc (only_alloc (World.grownBy.refl w _) _) _) _) _) (.inl rfl) _, ((((hb.alloc _).alloc _).alloc _).alloc _).set_ 0 _⟩


set_option maxHeartbeats 4000000 in
set_option maxRecDepth 100000 in
theorem as_K_hit (k : Int) (g : Nat) (old : Value) (w : World) (hG : GE w) (hb : Blk w g 26 [old]) :
    Calls Tryz.prog 111 #[.iface 26 (.int .i64 k), .iface 217 (.pointer (some ⟨g, 0, none⟩))] w fun ev w' => ev = .returned (.bool true) ∧ w.grownBy w' (some g) ∧ Blk w' g 26 [.int .i64 k] := by
  have hlt : g < w.heap.size := hb.lt
  have h0 : w.cell? ⟨1, 0, none⟩ = some (.iface 272 (.agg #[.pointer (some ⟨2, 83, none⟩)])) := hG
  have hlt0 := World.block_lt_of_cell? w _ h0
  dsimp only at hlt0
  have hlt1 : 0 < w.heap.size := by omega
  have hlt2 : 1 < w.heap.size + 1 := by omega
  have hlt3 : 1 < w.heap.size + 1 + 1 := by omega
  have hz := World.block_lt_of_cell? _ _ h0
  have y1 := x123
  have y2 := x124
  have y3 := x125
  have y4 := x146
  have y5 := x162
  have y6 := x163
  have y7 := x99
  have y8 := x160
  have y9 := x129
  have y10 := x130
  have f1 := Tryz.valueOfPK
  have f2 := Tryz.typePK
  have f3 := Tryz.methodKind
  have f4 := Tryz.kindPK
  have f5 := Tryz.kindK
  have f6 := Tryz.methodElem
  have f7 := Tryz.methodImplements
  have f8 := Tryz.methodAssignableTo
  have f9 := Tryz.elemPK
  have f10 := Tryz.implementsK
  have f11 := Tryz.typeOfK
  have f12 := Tryz.assignableKK
  have f13 := Tryz.valueOfK
  have f14 := Tryz.isNilPK
  have el := Tryz.elemVPK ⟨w.heap.size, 0, none⟩ ⟨g, 0, none⟩ (((w.alloc (.cells #[.pointer (some ⟨g, 0, none⟩)] 217)).alloc (.cells #[.pointer (some ⟨2, 217, none⟩), .pointer (some ⟨w.heap.size, 0, none⟩), .int .u64 150] 264)).alloc (.cells #[.pointer (some ⟨2, 217, none⟩), .pointer (some ⟨w.heap.size, 0, none⟩), .int .u64 150] 264))
    (by rw [World.cell?_alloc_lt _ _ ⟨w.heap.size, 0, none⟩ (by simp; omega), World.cell?_alloc_lt _ _ ⟨w.heap.size, 0, none⟩ (by simp)]; simp)
  have st := Tryz.setK ⟨g, 0, none⟩ ⟨w.heap.size + 1 + 1 + 1, 0, none⟩ k old ((((w.alloc (.cells #[.pointer (some ⟨g, 0, none⟩)] 217)).alloc (.cells #[.pointer (some ⟨2, 217, none⟩), .pointer (some ⟨w.heap.size, 0, none⟩), .int .u64 150] 264)).alloc (.cells #[.pointer (some ⟨2, 217, none⟩), .pointer (some ⟨w.heap.size, 0, none⟩), .int .u64 150] 264)).alloc (.cells #[.int .i64 k] 26))
    (by rw [World.cell?_alloc_at _ _ _ _ (by simp)]; rfl)
    (by rw [((((hb.alloc _).alloc _).alloc _).alloc _).cell 0]; rfl)
    (((((hb.alloc _).alloc _).alloc _).alloc _).frozen 0)
  have hc := hb.cell 0
  have hf := hb.frozen 0
  simp only [List.getElem?_cons_zero] at hc
  go_enter Tryz.func111, Tryz.ntmps111
  go_wp2
  refine wp_loop_rounds 1 ?_
  rw [rounds_succ]
  go_wp2
  go_ret
  exact ⟨rfl, only_setCell (only_alloc (only_alloc (only_alloc (only_alloc (World.grownBy.refl w _) _) _) _) _) (.inl rfl) _, ((((hb.alloc _).alloc _).alloc _).alloc _).set_ 0 _⟩


set_option maxHeartbeats 4000000 in
set_option maxRecDepth 100000 in
theorem as_K_miss (k : Int) (g : Nat) (old : Value) (w : World) (hG : GE w) (hb : Blk w g 212 [old]) :
    Calls Tryz.prog 111 #[.iface 26 (.int .i64 k), .iface 214 (.pointer (some ⟨g, 0, none⟩))] w fun ev w' => ev = .returned (.bool false) ∧ Below w.heap.size w w' := by
  have hlt : g < w.heap.size := hb.lt
  have h0 : w.cell? ⟨1, 0, none⟩ = some (.iface 272 (.agg #[.pointer (some ⟨2, 83, none⟩)])) := hG
  have hlt0 := World.block_lt_of_cell? w _ h0
  dsimp only at hlt0
  have hlt1 : 0 < w.heap.size := by omega
  have hlt2 : 1 < w.heap.size + 1 := by omega
  have hlt3 : 1 < w.heap.size + 1 + 1 := by omega
  have hz := World.block_lt_of_cell? _ _ h0
  have y1 := x123
  have y2 := x124
  have y3 := x125
  have y4 := x146
  have y5 := x162
  have y6 := x163
  have y7 := x99
  have y8 := x160
  have y9 := x129
  have y10 := x130
  have f1 := Tryz.valueOfPP
  have f2 := Tryz.typePP
  have f3 := Tryz.methodKind
  have f4 := Tryz.kindPP
  have f5 := Tryz.kindP
  have f6 := Tryz.methodElem
  have f7 := Tryz.methodImplements
  have f8 := Tryz.methodAssignableTo
  have f9 := Tryz.elemPP
  have f10 := Tryz.implementsP
  have f11 := Tryz.typeOfK
  have f12 := Tryz.assignableKP
  have n1 := Tryz.noAsK
  have n2 := Tryz.noUnwrapK
  have n3 := Tryz.noUnwrapsK
  have f14 := Tryz.isNilPP
  have hc := hb.cell 0
  have hf := hb.frozen 0
  simp only [List.getElem?_cons_zero] at hc
  go_enter Tryz.func111, Tryz.ntmps111
  go_wp2
  refine wp_loop_rounds 1 ?_
  rw [rounds_succ]
  go_wp2
  go_ret
  exact ⟨rfl, (((Below.refl _ _).alloc (Nat.le_refl _) _).alloc (by simp) _).alloc (by simp; omega) _⟩

end Go.Proofs.YtljmklohgpaopaaGreatDoor

namespace Go.Proofs.YtljmklohgpaopaaGreatDoor
open Go.RowKit Go.Extern.Stop Go.Stop Go.Extern

section
variable {P : Program} (w : World)
theorem run_equalIn_iface_int (d : Nat) {ti tn : TypeId} {ms : Array (String × TypeId)} {i : TypeInfo} {k : IntKind} (a b : Int)
    (hi : P.underlying ti = some (.interface ms)) (hn : P.underlying tn = some (.int k)) (hinfo : P.info? tn = some i) (hcomp : i.comparable = true) :
    (Op.equalIn (d + 2) ti (.iface tn (.int k a)) (.iface tn (.int k b))).run P w = .ok (a == b) w := by
  simp [Op.equalIn, run_underlying hi, run_underlying hn, typeInfo, hinfo, hcomp]
/-- 'x == y', both interface values of one integer type: as the numbers are. -/
theorem run_eql_iface_int {ti tn : TypeId} {ms : Array (String × TypeId)} {i : TypeInfo} {k : IntKind} (a b : Int)
    (hi : P.underlying ti = some (.interface ms)) (hn : P.underlying tn = some (.int k)) (hinfo : P.info? tn = some i) (hcomp : i.comparable = true) :
    (binOp .eql ti (.iface tn (.int k a)) (.iface tn (.int k b))).run P w = .ok (.bool (a == b)) w := by
  simp only [binOp]
  simp [Op.equal, Op.maxDepth, run_equalIn_iface_int w 9998 a b hi hn hinfo hcomp]
end

def cmpEntry : Array Value → Sem Value := ReflectliteType.method fun t => do Rtype.noPackHeld "Comparable" t; pure (.bool (← typeInfo t).comparable)
theorem Tryz.isComparableK (w : World) : (cmpEntry #[.agg #[.pointer (some ⟨2, 26, none⟩)]]).run Tryz.prog w = .ok (.bool true) w := by kernel_rfl
theorem Tryz.methodComparable (v : Value) (w : World) : (Go.method 442 272 v "Comparable").run Tryz.prog w = .ok (226, v) w := by kernel_rfl
theorem Tryz.compK : (Tryz.prog.info? 26).map (·.comparable) = some true := by kernel_rfl
theorem Tryz.noIsK (v : Value) (xT : TypeId) (w : World) : (Instr.typeAssert (.iface 26 v) xT 274 true).run Tryz.prog w = .ok (.tuple #[.nilIface, .bool false]) w := run_typeAssert_lacksB Tryz.underlying274 (by kernel_rfl) (by kernel_rfl) v xT w
theorem Tryz.noIsP (v : Value) (xT : TypeId) (w : World) : (Instr.typeAssert (.iface 212 v) xT 274 true).run Tryz.prog w = .ok (.tuple #[.nilIface, .bool false]) w := run_typeAssert_lacksB Tryz.underlying274 (by kernel_rfl) (by kernel_rfl) v xT w
theorem Tryz.hasUnwrapP (v : Value) (xT : TypeId) (w : World) : (Instr.typeAssert (.iface 212 v) xT 277 true).run Tryz.prog w = .ok (.tuple #[.iface 212 v, .bool true]) w := run_typeAssert_hasB Tryz.underlying277 (by kernel_rfl) v xT w
theorem Tryz.methodUnwrapP (a : Addr) (w : World) : (Go.method 442 212 (.pointer (some a)) "Unwrap").run Tryz.prog w = .ok (220, .pointer (some a)) w := by kernel_rfl
theorem x161 (args : Array Value) (w : World) : (callFunc 226 args).run Tryz.prog w = ((cmpEntry args).run Tryz.prog w).andThen fun v w' => .ok (.value v) w' :=
  @run_callFunc_extern Tryz.prog 226 _ cmpEntry Tryz.func226 (by kernel_rfl) (by kernel_rfl) (by kernel_rfl) (by kernel_rfl) args w

/-- errors.Is(nil, kind). -/
theorem is_nil (i : Int) (w : World) :
    Calls Tryz.prog 68 #[.nilIface, .iface 26 (.int .i64 i)] w fun e w' => e = .returned (.bool false) ∧ w = w' := by
  have hn := run_eql_iface_nil_left (P := Tryz.prog) w 26 (.int .i64 i) Tryz.underlying83
  go_enter Tryz.func68, Tryz.ntmps68
  go_wp2
  go_ret
  exact ⟨rfl, rfl⟩

set_option maxHeartbeats 1000000 in
set_option maxRecDepth 100000 in
/-- errors.Is(kind, kind). -/
theorem is_kind (k i : Int) (w : World) :
    Calls Tryz.prog 68 #[.iface 26 (.int .i64 k), .iface 26 (.int .i64 i)] w fun e w' => e = .returned (.bool (k == i)) ∧ w = w' := by
  obtain ⟨ti, hi, hcmp⟩ := Option.map_eq_some_iff.1 Tryz.compK
  have y1 := x99
  have y2 := x161
  have f1 := Tryz.typeOfK
  have f2 := Tryz.isComparableK
  have f3 := Tryz.methodComparable
  have n1 := Tryz.noIsK
  have n2 := Tryz.noUnwrapK
  have n3 := Tryz.noUnwrapsK
  have heq := run_eql_iface_int (P := Tryz.prog) w k i Tryz.underlying83 Tryz.underlying26 hi hcmp
  cases hki : (k == i)
  all_goals
    rw [hki] at heq
    clear hki hi hcmp
    go_enter Tryz.func68, Tryz.ntmps68
    go_wp2
    refine wp_loop_rounds 1 ?_
    rw [rounds_succ]
    go_wp2
    go_ret
    exact ⟨rfl, rfl⟩

set_option maxHeartbeats 2000000 in
set_option maxRecDepth 100000 in
/-- errors.Is(table error, kind). -/
theorem is_table (g : Nat) (t : Value) (k i : Int) (w : World) (hb : Blk w g 216 [t, .int .i64 k]) :
    Calls Tryz.prog 68 #[.iface 212 (.pointer (some ⟨g, 0, none⟩)), .iface 26 (.int .i64 i)] w fun e w' => e = .returned (.bool (k == i)) ∧ w = w' := by
  obtain ⟨ti, hi, hcmp⟩ := Option.map_eq_some_iff.1 Tryz.compK
  have y1 := x99
  have y2 := x161
  have f1 := Tryz.typeOfK
  have f2 := Tryz.isComparableK
  have f3 := Tryz.methodComparable
  have n1 := Tryz.noIsK
  have n2 := Tryz.noUnwrapK
  have n3 := Tryz.noUnwrapsK
  have n4 := Tryz.noIsP
  have n5 := Tryz.hasUnwrapP
  have n6 := Tryz.methodUnwrapP
  have hc := hb.cell 1
  simp only [List.getElem?_cons_succ, List.getElem?_cons_zero] at hc
  have heq := run_eql_iface_int (P := Tryz.prog) w k i Tryz.underlying83 Tryz.underlying26 hi hcmp
  have hty := run_eql_iface_types (P := Tryz.prog) 212 26 (.pointer (some ⟨g, 0, none⟩)) (.int .i64 i) Tryz.underlying83 (by decide) w
  cases hki : (k == i)
  all_goals
    rw [hki] at heq
    clear hki hi hcmp
    go_enter Tryz.func68, Tryz.ntmps68
    go_wp2
    refine wp_loop_rounds 2 ?_
    rw [rounds_succ]
    go_wp2
    rw [rounds_succ]
    go_wp2
    go_ret
    exact ⟨rfl, rfl⟩
end Go.Proofs.YtljmklohgpaopaaGreatDoor

namespace Go.Proofs.YtljmklohgpaopaaGreatDoor
open Go.RowKit Go.Extern.Stop Go.Stop Go.Extern

/-- The value is an error of this kind (0: none), of this table. -/
def ErrV (w : World) (v : Value) (k : Nat) (t : ByteArray) : Prop :=
  (v = .nilIface ∧ k = 0 ∧ t = ⟨#[]⟩) ∨ (v = .iface 26 (.int .i64 (k : Int)) ∧ t = ⟨#[]⟩) ∨
    ∃ g, v = .iface 212 (.pointer (some ⟨g, 0, none⟩)) ∧ Blk w g 216 [.string t, .int .i64 (k : Int)]
theorem ErrV.nil (w : World) : ErrV w .nilIface 0 ⟨#[]⟩ := .inl ⟨rfl, rfl, rfl⟩
theorem ErrV.kind (w : World) (k : Nat) : ErrV w (.iface 26 (.int .i64 (k : Int))) k ⟨#[]⟩ := .inr (.inl ⟨rfl, rfl⟩)
theorem ErrV.below {w w' : World} {v : Value} {k : Nat} {t : ByteArray} (h : ErrV w v k t) (hb : Below w.heap.size w w') : ErrV w' v k t := by
  rcases h with h | h | ⟨g, h, hg⟩
  · exact .inl h
  · exact .inr (.inl h)
  · exact .inr (.inr ⟨g, h, hg.below hb hg.lt⟩)
theorem GE.below {w w' : World} (h : GE w) (hb : Below w.heap.size w w') : GE w' := by
  have hz := World.block_lt_of_cell? _ _ h
  exact (hb.cell (p := ⟨1, 0, none⟩) hz).trans h
theorem told0_nil (w : World) (hG : GE w) :
    Calls Tryz.prog 67 #[.nilIface] w fun e w' => e = .returned (.tuple #[.int .i64 0, .string ⟨#[]⟩]) ∧ Below w.heap.size w w' := by
  go_enter Tryz.func67, Tryz.ntmps67
  go_wp2_with fail
  refine (as_nil _ _).mono ?_
  rintro e w' ⟨rfl, rfl⟩
  go_wp2_with fail
  refine (as_nil _ _).mono ?_
  rintro e w' ⟨rfl, rfl⟩
  go_wp2_with fail
  go_ret2
  exact ⟨rfl, ((Below.refl _ _).alloc (Nat.le_refl _) _).alloc (by simp) _⟩

theorem GE.alloc {w : World} (h : GE w) (o : Obj) : GE (w.alloc o) := h.below ((Below.refl _ _).alloc (Nat.le_refl _) _)

set_option maxHeartbeats 1000000 in
theorem told0_kind (k : Int) (w : World) (hG : GE w) :
    Calls Tryz.prog 67 #[.iface 26 (.int .i64 k)] w fun e w' => e = .returned (.tuple #[.int .i64 k, .string ⟨#[]⟩]) ∧ Below w.heap.size w w' := by
  go_enter Tryz.func67, Tryz.ntmps67
  go_wp2_with fail
  refine (as_K_miss k w.heap.size _ _ (hG.alloc _) (Blk.new w _ _)).mono ?_
  rintro e w1 ⟨rfl, hb1⟩
  have hs1 := hb1.size
  simp only [World.size_alloc] at hs1
  go_wp2_with fail
  refine (as_K_hit k w1.heap.size _ _ (((hG.alloc _).below hb1).alloc _) (Blk.new w1 _ _)).mono ?_
  rintro e w2 ⟨rfl, hon, hblk⟩
  have hc := hblk.cell 0
  simp only [List.getElem?_cons_zero] at hc
  go_wp2_with fail
  go_ret2
  have h1 : Below w.heap.size w w1 := ((Below.refl _ _).alloc (Nat.le_refl _) _).trans (hb1.mono (by simp))
  exact ⟨rfl, (h1.alloc h1.size _).trans (below_of_only hon h1.size (by have := h1.size; simp; omega))⟩

set_option maxHeartbeats 1000000 in
theorem told0_table (g : Nat) (t : ByteArray) (k : Int) (w : World) (hG : GE w) (hb : Blk w g 216 [.string t, .int .i64 k]) :
    Calls Tryz.prog 67 #[.iface 212 (.pointer (some ⟨g, 0, none⟩))] w fun e w' => e = .returned (.tuple #[.int .i64 k, .string t]) ∧ Below w.heap.size w w' := by
  go_enter Tryz.func67, Tryz.ntmps67
  go_wp2_with fail
  refine (as_P_hit ⟨g, 0, none⟩ w.heap.size _ _ (hG.alloc _) (Blk.new w _ _)).mono ?_
  rintro e w2 ⟨rfl, hon, hblk⟩
  have hc := hblk.cell 0
  simp only [List.getElem?_cons_zero] at hc
  have hb2 := (hb.alloc (.cells #[.pointer none] 212)).grown hon (by have := hb.lt; simp; omega)
  have hc0 := hb2.cell 0
  have hc1 := hb2.cell 1
  simp only [List.getElem?_cons_succ, List.getElem?_cons_zero] at hc0 hc1
  have hbel : Below w.heap.size w w2 := ((Below.refl _ _).alloc (Nat.le_refl _) _).trans (below_of_only hon (Nat.le_refl _) (by simp))
  have HB := Lib.hid hbel
  clear hbel hon hblk hb2 hb
  go_wp2_with fail
  go_quiet (fail)
  go_wp2_with fail
  go_ret2
  exact ⟨rfl, below_drewN HB.out _⟩

theorem told0_any (v : Value) (k : Nat) (t : ByteArray) (w : World) (hG : GE w) (h : ErrV w v k t) :
    Calls Tryz.prog 67 #[v] w fun e w' => e = .returned (.tuple #[.int .i64 (k : Int), .string t]) ∧ Below w.heap.size w w' := by
  rcases h with ⟨rfl, rfl, rfl⟩ | ⟨rfl, rfl⟩ | ⟨g, rfl, hb⟩
  · exact told0_nil w hG
  · exact told0_kind k w hG
  · exact told0_table g t k w hG hb
theorem is_any (v : Value) (k : Nat) (t : ByteArray) (i : Int) (w : World) (h : ErrV w v k t) (hi : 1 ≤ i) :
    Calls Tryz.prog 68 #[v, .iface 26 (.int .i64 i)] w fun e w' => e = .returned (.bool ((k : Int) == i)) ∧ w = w' := by
  rcases h with ⟨rfl, rfl, rfl⟩ | ⟨rfl, rfl⟩ | ⟨g, rfl, hb⟩
  · refine (is_nil i w).mono fun e w' ⟨he, hw⟩ => ⟨?_, hw⟩
    rw [he]
    have : (((0 : Nat) : Int) == i) = false := by simp; omega
    rw [this]
  · exact is_kind k i w
  · exact is_table g _ k i w hb

set_option maxHeartbeats 1000000 in
theorem told_any (v : Value) (k : Nat) (t : ByteArray) (w : World) (hG : GE w) (h : ErrV w v k t) (hk : k ≤ 21) :
    Calls Tryz.prog 35 #[v] w fun e w' => e = .returned (.agg #[.int .i64 (k : Int), .string t, .bool true]) ∧ Below w.heap.size w w' := by
  go_enter Tryz.func35, Tryz.ntmps35
  go_wp2_with fail
  refine (told0_any v k t _ (hG.alloc _) (h.below ((Below.refl _ _).alloc (Nat.le_refl _) _))).mono ?_
  rintro e w1 ⟨rfl, hb1⟩
  have hs1 := hb1.size
  simp only [World.size_alloc] at hs1
  have h1 : Below w.heap.size w w1 := ((Below.refl _ _).alloc (Nat.le_refl _) _).trans (hb1.mono (by simp))
  have hE := h.below (h1.trans ((Below.refl _ _).alloc h1.size (.cells #[.int .i64 (k : Int), .string t, .bool true] 28)))
  have hblk2 : Blk w1 w.heap.size 28 [.int .i64 0, .string ⟨#[]⟩, .bool false] := (Blk.new w 28 [.int .i64 0, .string ⟨#[]⟩, .bool false]).below hb1 (by simp)
  have H1 := Lib.hid h1
  have HB2 := Lib.hid hblk2
  have HE := Lib.hid hE
  clear h1 hb1 hblk2 hE h hG
  go_wp2_with fail
  go_loop [6] (fun i => ∃ n : Nat, 1 ≤ n ∧ n ≤ 22 ∧ i = .int .i64 (n : Int)) (fun i => 22 - (intOf i).toNat)
  case atStart => exact ⟨1, by omega, by omega, rfl⟩
  case round =>
    obtain ⟨n, hn1, hn2, rfl⟩ := hrel
    by_cases hlt : n ≤ 21
    · cases hkn : (((k : Nat) : Int) == (n : Int))
      all_goals
        have hnk : ((n : Int) == ((k : Nat) : Int)) = _ := Bool.beq_comm.trans hkn
        have HKN := Lib.hid hkn
        clear hkn
        go_wp2_with fail
        refine (is_any v k t n _ HE.out (by omega)).mono ?_
        rintro e w' ⟨rfl, rfl⟩
        rw [HKN.out]
        go_wp2_with fail
        go_round
        case rel => exact ⟨n + 1, by omega, by omega, by go_num⟩
        case measure => simp [intOf]; omega
    · have hB3 := HB2.out.alloc (.cells #[.int .i64 (k : Int), .string t, .bool true] 28)
      have c0 := hB3.cell 0
      have c1 := hB3.cell 1
      have c2 := hB3.cell 2
      have f0 := hB3.frozen 0
      have f1 := hB3.frozen 1
      have f2 := hB3.frozen 2
      simp only [List.getElem?_cons_succ, List.getElem?_cons_zero] at c0 c1 c2
      have hW := ((hB3.set_ 0 (.int .i64 (k : Int))).set_ 1 (.string t)).set_ 2 (.bool true)
      have HW := Lib.hid hW
      clear hB3 hW
      go_wp2_with fail
      have d0 := HW.out.cell 0
      have d1 := HW.out.cell 1
      have d2 := HW.out.cell 2
      simp only [List.set_cons_zero, List.set_cons_succ, List.getElem?_cons_succ, List.getElem?_cons_zero] at d0 d1 d2
      refine bodyPost_ret (v := .agg #[.int .i64 (k : Int), .string t, .bool true]) (by simp [results, Tryz.results35, go_sem, d0, d1, d2]) rfl ⟨rfl, ?_⟩
      exact (((H1.out.alloc H1.out.size _).setCell (Nat.le_refl _) _).setCell (Nat.le_refl _) _).setCell (Nat.le_refl _) _
end Go.Proofs.YtljmklohgpaopaaGreatDoor

namespace Go.Proofs.YtljmklohgpaopaaGreatDoor
open Go.RowKit

def errA (k : Int) (t : ByteArray) : Value := .agg #[.int .i64 k, .string t, .bool true]

/-- '==' between two errors in plain data. -/
theorem eql_err (k k' : Int) (t t' : ByteArray) (b b' : Bool) (w : World) :
    (binOp .eql 28 (.agg #[.int .i64 k, .string t, .bool b]) (.agg #[.int .i64 k', .string t', .bool b'])).run Tryz.prog w = .ok (.bool (k == k' && (t.toList == t'.toList && b == b'))) w := by
  have he := run_equalIn_struct (P := Tryz.prog) w 9999 28 #[.int .i64 k, .string t, .bool b] #[.int .i64 k', .string t', .bool b'] (by kernel_rfl) (by kernel_rfl)
  simp only [binOp]
  simp only [Op.equal, Op.maxDepth, Sem.run_bind, he]
  simp [go_sem, part]
  by_cases h1 : k = k' <;> by_cases h2 : t.toList = t'.toList <;> by_cases h3 : b = b' <;> simp [h1, h2, h3]

end Go.Proofs.YtljmklohgpaopaaGreatDoor

namespace Go.Proofs.YtljmklohgpaopaaGreatDoor
open Go.RowKit


end Go.Proofs.YtljmklohgpaopaaGreatDoor

namespace Go.Proofs.YtljmklohgpaopaaGreatDoor
open Go.RowKit

/-- The result in plain data stands in a cell of its own. -/
theorem results_err2 {fn : Func} {s t : Tmp} {tmps : Array Value} {w : World} {g : Nat} {v : Value} {k : Int} {u : ByteArray} (h : fn.results = #[.tmp s, .cell t 28]) (hv : tmps.getD s undef = v) (ht : tmps.getD t undef = .pointer (some ⟨g, 0, none⟩)) (hB : Blk w g 28 [.int .i64 k, .string u, .bool true]) :
    (results fn tmps).run Tryz.prog w = .ok (.tuple #[v, errA k u]) w := by
  have c0 := hB.cell 0
  have c1 := hB.cell 1
  have c2 := hB.cell 2
  simp only [List.getElem?_cons_succ, List.getElem?_cons_zero] at c0 c1 c2
  simp only [Array.getD_eq_getD_getElem?] at ht hv
  simp [results, h, ht, hv, go_sem, c0, c1, c2, errA, asAddr]

theorem facts3 {w : World} {g : Nat} {t : TypeId} {a0 a1 a2 : Value} (h : Blk w g t [a0, a1, a2]) :
    w.cell? ⟨g, 0, none⟩ = some a0 ∧ w.cell? ⟨g, 1, none⟩ = some a1 ∧ w.cell? ⟨g, 2, none⟩ = some a2 ∧
    w.frozen? ⟨g, 0, none⟩ = false ∧ w.frozen? ⟨g, 1, none⟩ = false ∧ w.frozen? ⟨g, 2, none⟩ = false :=
  ⟨h.cell 0, h.cell 1, h.cell 2, h.frozen 0, h.frozen 1, h.frozen 2⟩
theorem Blk.set3 {w : World} {g : Nat} {t : TypeId} {a0 a1 a2 : Value} (h : Blk w g t [a0, a1, a2]) (x0 x1 x2 : Value) :
    Blk (((w.setCell ⟨g, 0, none⟩ x0).setCell ⟨g, 1, none⟩ x1).setCell ⟨g, 2, none⟩ x2) g t [x0, x1, x2] :=
  ((h.set_ 0 x0).set_ 1 x1).set_ 2 x2
theorem below_set3 {B : Nat} {a w : World} (h : Below B a w) {g : Nat} (hg : B ≤ g) (x0 x1 x2 : Value) :
    Below B a (((w.setCell ⟨g, 0, none⟩ x0).setCell ⟨g, 1, none⟩ x1).setCell ⟨g, 2, none⟩ x2) :=
  ((h.setCell hg x0).setCell hg x1).setCell hg x2
def err0 : Obj := .cells #[.int .i64 0, .string ⟨#[]⟩, .bool false] 28

end Go.Proofs.YtljmklohgpaopaaGreatDoor

namespace Go.Proofs.YtljmklohgpaopaaGreatDoor
open Go.RowKit

theorem own_addr {w : World} {base : Nat} {e : TypeId} {size n : Nat} {v : Value} {xs : List Value} (h : w.ownsRow base e size v n xs) (hn : 0 < n) : ∃ g cap, v = .slice (some ⟨g, 0, none⟩) n cap ∧ base ≤ g ∧ n ≤ cap := by
  rcases h.2 with ⟨_, h0⟩ | ⟨g, cap, cur, hv, hb, _, hc, _⟩
  · omega
  · exact ⟨g, cap, hv, hb, hc⟩
end Go.Proofs.YtljmklohgpaopaaGreatDoor
