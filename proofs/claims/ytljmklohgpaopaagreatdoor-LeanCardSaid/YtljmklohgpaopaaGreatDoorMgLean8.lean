/- Plain: two pasts under one digest show two texts with one sum. No program in sight. The walks of sums.byOne, sums.Check and of the reference's Check. The walks of the codec's Must, IsName, IsValue, and of the document's. The walks of the codec's Num of eight bytes, IsValue, Name, Value. The walk of the codec's Value. The walk of the codec's Row. The walk of the codec's AreColumns: a map that the call makes counts the names. The walk of the codec's AreColumns. The walk of the codec's Columns. The codec's op: what the walk needs of the plain side. The walk of the codec's op. Laws over any program: in a region that draws its order a load may be taken first of a cell that the region itself writes behind an operation that waits for the load. The codec's Read: what the walk needs of the plain side. The walk of the codec's Read. Bytes that a call owns, and what is appended to them; the codec's short, Value. The codec's Value, Row, Columns: bytes that are laid down. -/
import Derived.Test.YtljmklohgpaopaaGreatDoorMgLean2
import Derived.Test.YtljmklohgpaopaaGreatDoorMgLean1
import Derived.Test.YtljmklohgpaopaaGreatDoorMgLean6
import Derived.Test.YtljmklohgpaopaaGreatDoorMgLean4
import Derived.Test.YtljmklohgpaopaaGreatDoorMgLean5
import Derived.Maps.OwnOps
import Derived.Maps.Views
import Derived.WalkKit
import Derived.OrdersHeld
import Derived.Deep.RegionHeld
import Derived.Lib.AppendStr
set_option linter.unusedVariables false
set_option linter.unusedSimpArgs false

namespace Go.Proofs.YtljmklohgpaopaaGreatDoor
namespace Pl

/-- The texts of a tree, in the order in which it is gone through. -/
def ttexts (ls : List (List UInt8)) : List (List UInt8) :=
  match h : ls with
  | [] => []
  | [l] => [0 :: l]
  | a :: b :: r => (1 :: (be 4 (root (ls.take (half ls.length))) ++ be 4 (root (ls.drop (half ls.length))))) :: (ttexts (ls.take (half ls.length)) ++ ttexts (ls.drop (half ls.length)))
termination_by ls.length
decreasing_by
  · subst h
    have := half_lt (n := (a :: b :: r).length) (by simp)
    rw [List.length_take]
    omega
  · subst h
    have h1 := half_pos (a :: b :: r).length
    have hl : (a :: b :: r).length = r.length + 2 := by simp
    rw [List.length_drop]
    omega
/-- The first place where two lists part. -/
def parts : List (List UInt8) → List (List UInt8) → Option (List UInt8 × List UInt8)
  | a :: l, b :: m => if a = b then parts l m else some (a, b)
  | _, _ => none
/-- A transaction's texts; its entry. -/
def txTexts (t : Txn) : List (List UInt8) := t.ops.map encOp
def entryOf (n : Nat) (t : Txn) : List UInt8 := entry n (be 8 t.time) t.ops.length (root (txTexts t))
def txAt (P : List Txn) (k : Nat) : Txn := P.getD k ⟨0, []⟩
/-- The entries of a block (from 0), the hash ahead of it, its header. -/
def ents (P : List Txn) (i : Nat) : List (List UInt8) := [entryOf (3 * i + 1) (txAt P (3 * i)), entryOf (3 * i + 2) (txAt P (3 * i + 1)), entryOf (3 * i + 3) (txAt P (3 * i + 2))]
def hashAt (P : List Txn) : Nat → Nat
  | 0 => 0
  | i + 1 => sumN (header (i + 1) (hashAt P i) (root (ents P i)))
def hdr (P : List Txn) (i : Nat) : List UInt8 := header (i + 1) (hashAt P i) (root (ents P i))
/-- Is it a header of a past, or one of the texts of its trees? -/
def Summed (P : List Txn) (n : Nat) (x : List UInt8) : Prop := (∃ i, i < n ∧ (x = hdr P i ∨ x ∈ ttexts (ents P i))) ∨ ∃ k, k < 3 * n ∧ x ∈ ttexts (txTexts (txAt P k))
theorem Summed.mono {P : List Txn} {n n' : Nat} {x : List UInt8} (h : Summed P n x) (hn : n ≤ n') : Summed P n' x := by
  rcases h with ⟨i, h1, h2⟩ | ⟨k, h1, h2⟩
  · exact .inl ⟨i, by omega, h2⟩
  · exact .inr ⟨k, by omega, h2⟩
end Pl
end Go.Proofs.YtljmklohgpaopaaGreatDoor

namespace Go.Proofs.YtljmklohgpaopaaGreatDoor
open Go.RowKit

end Go.Proofs.YtljmklohgpaopaaGreatDoor

namespace Go.Proofs.YtljmklohgpaopaaGreatDoor
open Go.RowKit

/-- What '[]byte(s)' lays. -/
def bytesObj (s : ByteArray) (cap : Nat) : Obj := .cells (bytesRow s cap) 5 ((bytesRow s cap).size, (bytesRow s cap).size + 1)
theorem run_tobytes (w : World) (s : ByteArray) : (convert 9 25 (.string s)).run Tryz.prog w = .ok (.slice (some ⟨w.heap.size, 0, none⟩) s.size (grownCap w s.size 0 5)) (w.drew.alloc (bytesObj s (grownCap w s.size 0 5))) :=
  run_bytes_of_string w 9 25 5 s Tryz.underlying9 Tryz.underlying25 Tryz.underlying5
theorem bytesObj_at {w : World} {g cap : Nat} {s : ByteArray} (h : w.heap[g]? = some (bytesObj s cap)) : BytesAt w (some ⟨g, 0, none⟩) s.data.toList := by
  refine .inr ⟨g, 0, rfl, fun i hi => ?_⟩
  have hi' : i < s.data.size := by simpa using hi
  rw [Nat.zero_add, cell_of_row w g i _ _ _ h, bytesRow_at s cap i hi']
  simp

end Go.Proofs.YtljmklohgpaopaaGreatDoor

namespace Go.Proofs.YtljmklohgpaopaaGreatDoor
open Go.RowKit

/-- An int of 64 bits, of a number. -/
def sig (n : Nat) : Int := if n < 9223372036854775808 then (n : Int) else (n : Int) - 18446744073709551616
end Go.Proofs.YtljmklohgpaopaaGreatDoor

namespace Go.Proofs.YtljmklohgpaopaaGreatDoor
open Go.RowKit

end Go.Proofs.YtljmklohgpaopaaGreatDoor

namespace Go.Proofs.YtljmklohgpaopaaGreatDoor
open Go.RowKit

def vc (v : Pl.Vl) : List Value := [.int .i64 (v.ty : Nat), .int .i64 (sig v.n), .string (tstr v.s)]
def vcs (row : List Pl.Vl) : List Value := row.flatMap vc
/-- Where a loop of parses stands behind so many rounds. -/
def ManyAt {α : Type} (p : List UInt8 → Option (α × List UInt8)) (N : Nat) (l0 : List UInt8) (b0 : Bool) (r : Nat) (xs : List α) (lr : List UInt8) (br : Bool) : Prop :=
  (br = true ∧ (b0 = true ∨ Pl.pMany p N l0 = none)) ∨ (br = false ∧ b0 = false ∧ Pl.pMany p N l0 = (Pl.pMany p (N - r) lr).bind fun y => some (xs ++ y.1, y.2))
theorem ManyAt.step {α : Type} {p : List UInt8 → Option (α × List UInt8)} {N : Nat} {l0 : List UInt8} {b0 : Bool} {r : Nat} {xs : List α} {lr l' : List UInt8} {bad' : Bool} {x : α}
    (h : ManyAt p N l0 b0 r xs lr false) (hr : r < N) (hb : bad' = (false || (p lr).isNone)) (ho : bad' = false → p lr = some (x, l')) : ManyAt p N l0 b0 (r + 1) (xs ++ [x]) l' bad' := by
  rcases h with ⟨h, _⟩ | ⟨_, h1, h2⟩
  · cases h
  · obtain ⟨k, hk⟩ : ∃ k, N - r = k + 1 := ⟨N - r - 1, by omega⟩
    rw [hk, Pl.pMany] at h2
    cases bad' with
    | true =>
      refine .inl ⟨rfl, .inr ?_⟩
      cases hp : p lr with
      | none => rw [h2, hp]; rfl
      | some y => rw [hp] at hb; simp at hb
    | false =>
      refine .inr ⟨rfl, h1, ?_⟩
      rw [h2, ho rfl, show N - (r + 1) = k by omega]
      simp only [Option.bind_some]
      cases Pl.pMany p k l' with
      | none => rfl
      | some y => simp
theorem ManyAt.done {α : Type} {p : List UInt8 → Option (α × List UInt8)} {N : Nat} {l0 : List UInt8} {b0 : Bool} {r : Nat} {xs : List α} {lr : List UInt8} {br : Bool}
    (h : ManyAt p N l0 b0 r xs lr br) (he : br = false → N ≤ r) : br = (b0 || (Pl.pMany p N l0).isNone) ∧ (br = false → Pl.pMany p N l0 = some (xs, lr)) := by
  rcases h with ⟨rfl, h⟩ | ⟨rfl, h1, h2⟩
  · refine ⟨?_, fun h => by cases h⟩
    rcases h with rfl | h
    · rfl
    · rw [h]; simp
  · have hz : N - r = 0 := by have := he rfl; omega
    rw [hz, Pl.pMany] at h2
    simp only [Option.bind_some, List.append_nil] at h2
    rw [h1, h2]
    exact ⟨rfl, fun _ => rfl⟩

def VlB (v : Pl.Vl) : Prop := v.ty < 256 ∧ v.n < 18446744073709551616 ∧ v.s.length ≤ 255
end Go.Proofs.YtljmklohgpaopaaGreatDoor

namespace Go.Proofs.YtljmklohgpaopaaGreatDoor
open Go.RowKit Go.Maps Go.WideMaps

def clc (c : Pl.Cl) : List Value := [.string (tstr c.name), .int .i64 (c.ty : Nat)]
def clcs (cs : List Pl.Cl) : List Value := cs.flatMap clc
theorem Tryz.keyLaw : Keyed Tryz.prog 9 := string_keyed Tryz.underlying9
theorem Tryz.zeroInt (w : World) : (zeroValue 3).run Tryz.prog w = .ok (.int .i64 0) w := by kernel_rfl
/-- Block b is a map that has counted these names. -/
def SeenAt (w : World) (b k : Nat) (names : List (List UInt8)) : Prop :=
  ∃ D : DataW Unit, w.ownsMap Tryz.prog 9 (plainElem Tryz.prog 3) b k D ∧ ∀ s : List UInt8, D.atKey (.string s) (.lit (.int .i64 0)) = .lit (.int .i64 ((names.count s : Nat) : Int))
theorem SeenAt.heap {w w' : World} {b k : Nat} {names : List (List UInt8)} (h : SeenAt w b k names) (hh : w'.heap[b]? = w.heap[b]?) : SeenAt w' b k names := by
  obtain ⟨D, ⟨es, clock, h1, h2⟩, h3⟩ := h
  exact ⟨D, ⟨es, clock, hh.trans h1, h2⟩, h3⟩
theorem SeenAt.made (w : World) : SeenAt (w.alloc (.map #[] 0)) w.heap.size 0 [] := ⟨.map [], World.ownsMap_made _ _ _ _, fun s => rfl⟩
theorem SeenAt.lt {w : World} {b k : Nat} {names : List (List UInt8)} (h : SeenAt w b k names) : b < w.heap.size := by
  obtain ⟨D, ⟨es, clock, h1, h2⟩, h3⟩ := h
  rcases Nat.lt_or_ge b w.heap.size with h | h
  · exact h
  · rw [Array.getElem?_eq_none h] at h1; cases h1
set_option maxRecDepth 100000 in
theorem SeenAt.look {w : World} {b k : Nat} {names : List (List UInt8)} (h : SeenAt w b k names) (nm : List UInt8) (hn : nm.length ≤ 255) :
    (Instr.lookup 314 (.map (some b)) (.string (tstr nm)) false).run Tryz.prog w = .ok (.int .i64 ((names.count nm : Nat) : Int)) w := by
  obtain ⟨D, hown, h3⟩ := h
  have hkey : keyOf Tryz.prog 9 (.string (tstr nm)) = some (.string nm) := keyOf_string_mk Tryz.underlying9 (by rw [tstr_size]; unfold maxLen; omega)
  obtain ⟨c, hrun, hat, _⟩ := hown.lookup_int Tryz.keyLaw Tryz.underlying314 Tryz.underlying3 (Tryz.zeroInt _) hkey
  rw [h3] at hat
  injection hat with hat
  injection hat with _ hat
  rw [hat]
  exact hrun
end Go.Proofs.YtljmklohgpaopaaGreatDoor

namespace Go.Proofs.YtljmklohgpaopaaGreatDoor
open Go.RowKit Go.Maps Go.WideMaps

theorem facts2 {w : World} {g : Nat} {t : TypeId} {a0 a1 : Value} (h : Blk w g t [a0, a1]) :
    w.cell? ⟨g, 0, none⟩ = some a0 ∧ w.cell? ⟨g, 1, none⟩ = some a1 ∧ w.frozen? ⟨g, 0, none⟩ = false ∧ w.frozen? ⟨g, 1, none⟩ = false := ⟨h.cell 0, h.cell 1, h.frozen 0, h.frozen 1⟩
end Go.Proofs.YtljmklohgpaopaaGreatDoor

namespace Go.Proofs.YtljmklohgpaopaaGreatDoor
open Go.RowKit

def ClB (c : Pl.Cl) : Prop := c.name.length ≤ 255 ∧ c.ty < 256
end Go.Proofs.YtljmklohgpaopaaGreatDoor

namespace Go.Proofs.YtljmklohgpaopaaGreatDoor
open Go.RowKit

/-- A value is an op whose rows this call made. -/
def OpV (w : World) (B : Nat) (v : Value) (o : Pl.Opn) : Prop :=
  ∃ va vb, v = .agg #[.int .i64 (o.kind : Nat), .string (tstr o.table), va, vb] ∧ w.ownsRow B 224 2 va o.cols.length (clcs o.cols) ∧ w.ownsRow B 122 3 vb o.row.length (vcs o.row)
end Go.Proofs.YtljmklohgpaopaaGreatDoor

namespace Go.Proofs.YtljmklohgpaopaaGreatDoor
open Go.RowKit

theorem own_base {w : World} {base b' n size : Nat} {e : TypeId} {v : Value} {xs : List Value} (h : w.ownsRow base e size v n xs) (hb : b' ≤ base) : w.ownsRow b' e size v n xs := by
  refine ⟨h.1, ?_⟩
  rcases h.2 with hn | ⟨g, cap, cur, rfl, hb1, rest⟩
  · exact .inl hn
  · exact .inr ⟨g, cap, cur, rfl, Nat.le_trans hb hb1, rest⟩
end Go.Proofs.YtljmklohgpaopaaGreatDoor

namespace Go.Proofs.YtljmklohgpaopaaGreatDoor
open Go

section
variable {P : Program} {ops : Array Oper} {Q : Exit → Act → World → Prop} {md : Region.Mode} {S : Array Bool → World → Prop} {C D : World → Prop} {m : Nat}

/-- As wpAnyH, but what holds of the world may hang on what has come up. -/
def wpL (P : Program) (md : Region.Mode) (ops : Array Oper) (Q : Exit → Act → World → Prop) (S : Array Bool → World → Prop) : Nat → Array Bool → Act → World → Prop
  | 0, L, a, w => Region.ready md ops L = [] ∧ Q .normal a w
  | f + 1, L, a, w =>
    (Region.ready md ops L = [] → Q .normal a w) ∧
    ∀ i ∈ Region.ready md ops L, wpOp P ops Q i (fun a' w' => S (L.setIfInBounds i true) w' ∧ wpL P md ops Q S f (L.setIfInBounds i true) a' w') a w
theorem wpAny_of_L : ∀ (f : Nat) (L : Array Bool) (a : Act) (w : World), wpL P md ops Q S f L a w → wpAny P md ops Q f L a w
  | 0, _, _, _, h => h
  | f + 1, _, _, _, h => ⟨h.1, fun i hi => wpOp_mono (fun a' w' h' => wpAny_of_L f _ a' w' h'.2) (h.2 i hi)⟩

theorem wpL_first {i : Nat} {oi : Oper} {v : Value} (hi : ops[i]? = some oi) (hsel : ∀ (j : Nat) (o : Oper) cs b, ops[j]? = some o → o.op ≠ .select cs b)
    (hQ : ∀ c a w, Q (.panic c) (a.put oi.dst v) w → Q (.panic c) a w) (I : Array Bool → Prop) (hI : ∀ L j, I L → i ∈ Region.ready md ops L → j ∈ Region.ready md ops L → j ≠ i → I (L.setIfInBounds j true))
    (hm : ∀ L w, S (L.setIfInBounds i true) w ↔ S L w) (T : World → Prop) (hT : ∀ L w, I L → S L w → T w) :
    ∀ (fuel : Nat) (listed : Array Bool) (a : Act) (w : World), I listed →
      (∀ j oj, ops[j]? = some oj → j ≠ i → listed.getD j true = false → (∀ e ∈ oj.after, Region.binds md e = true → e.on ≠ i) → oi.apart ops oj = true) →
      i ∈ Region.ready md ops listed → YieldsIf P ops T oi v a → S listed w →
      wpL P md ops Q S fuel (listed.setIfInBounds i true) (a.put oi.dst v) w → wpL P md ops Q S (fuel + 1) listed a w := by
  intro fuel
  induction fuel with
  | zero =>
    intro L a w hIL _ hr hy hS H
    refine ⟨fun h => (by rw [h] at hr; cases hr), fun j hj => ?_⟩
    by_cases hji : j = i
    · subst hji
      exact hy.wpOp hi (hT _ _ hIL hS) ⟨(hm L w).2 hS, H⟩
    · have := ready_mono hj hji
      rw [H.1] at this
      cases this
  | succ fuel ih =>
    intro L a w hIL hfree hr hy hS H
    refine ⟨fun h => (by rw [h] at hr; cases hr), fun j hj => ?_⟩
    by_cases hji : j = i
    · subst hji
      exact hy.wpOp hi (hT _ _ hIL hS) ⟨(hm L w).2 hS, H⟩
    · have h1 := H.2 j (ready_mono hj hji)
      obtain ⟨hjun, oj, hoj, hall⟩ := mem_ready.1 hj
      have hnot : ∀ e ∈ oj.after, Region.binds md e = true → e.on ≠ i := fun e he hb heq => by
        have h1 := hall e he hb
        have h0 := (mem_ready.1 hr).1
        rw [heq] at h1
        rcases Nat.lt_or_ge i L.size with h' | h'
        · simp [h'] at h0 h1; rw [h0] at h1; cases h1
        · simp [Array.getElem?_eq_none h'] at h1
      have h2 := wpOp_putIf hoj (hfree j oj hoj hji hjun hnot) (fun cs b => hsel i oi cs b hi) (fun cs b => hsel j oj cs b hoj) hQ hy h1
      have hfree' : ∀ k ok, ops[k]? = some ok → k ≠ i → (L.setIfInBounds j true).getD k true = false →
          (∀ e ∈ ok.after, Region.binds md e = true → e.on ≠ i) → oi.apart ops ok = true := fun k ok hk hki hun hno => by
        refine hfree k ok hk hki ?_ hno
        by_cases hjk : j = k
        · subst hjk; exact hjun
        · rw [getD_set_ne true hjk] at hun; exact hun
      refine wpOp_mono (fun a' w' h3 => ?_) h2
      have hs : S (L.setIfInBounds j true) w' := by
        have := h3.2.1
        rw [Array.setIfInBounds_comm _ _ (Ne.symm hji)] at this
        exact (hm _ _).1 this
      refine ⟨hs, ih (L.setIfInBounds j true) a' w' (hI L j hIL hr hj hji) hfree' (ready_mono hr (Ne.symm hji)) h3.1 hs ?_⟩
      rw [Array.setIfInBounds_comm _ _ hji]
      exact h3.2.2

/-- Does operation m wait for operation i? -/
def waits (md : Region.Mode) (ops : Array Oper) (m i : Nat) : Bool := match ops[m]? with
  | some o => o.after.any fun e => Region.binds md e && e.on == i
  | none => false
/-- What holds till operation m has come up, and what holds all along. -/
def Till (m : Nat) (C D : World → Prop) (L : Array Bool) (w : World) : Prop := (L.getD m true = false → C w) ∧ D w
theorem wpL_take {i : Nat} {oi : Oper} {v : Value} {fuel : Nat} {listed : Array Bool} {a : Act} {w : World} (hi : ops[i]? = some oi)
    (hs : Region.noSelect ops = true) (hf : Region.free md ops listed i = true) (hr : (Region.ready md ops listed).contains i = true)
    (hw : (waits md ops m i && !(m == i) && !(listed.getD m true)) = true)
    (hQ : ∀ c a w, Q (.panic c) (a.put oi.dst v) w → Q (.panic c) a w) (hy : YieldsIf P ops (fun w => C w ∧ D w) oi v a) (hS : Till m C D listed w)
    (h : wpL P md ops Q (Till m C D) fuel (listed.setIfInBounds i true) (a.put oi.dst v) w) : wpL P md ops Q (Till m C D) (fuel + 1) listed a w := by
  simp only [Bool.and_eq_true, Bool.not_eq_true', beq_eq_false_iff_ne, ne_eq] at hw
  obtain ⟨⟨hw, hmi⟩, hun⟩ := hw
  refine wpL_first hi (Region.noSelect_spec hs) hQ (fun L => L.getD m true = false) ?_ (fun L w => ?_) _ (fun L w hL hs => ⟨hs.1 hL, hs.2⟩) fuel listed a w hun (Region.free_spec hi hf) (by simpa using hr) hy hS h
  · intro L j hL hiL hj hji
    by_cases hjm : j = m
    · subst hjm
      obtain ⟨_, oj, hoj, hall⟩ := mem_ready.1 hj
      unfold waits at hw
      rw [hoj] at hw
      obtain ⟨e, he, hb⟩ := Array.any_eq_true'.1 hw
      simp only [Bool.and_eq_true, beq_iff_eq] at hb
      have h1 := hall e he hb.1
      have h0 := (mem_ready.1 hiL).1
      rw [hb.2] at h1
      rcases Nat.lt_or_ge i L.size with h' | h'
      · simp [h'] at h0 h1; rw [h0] at h1; cases h1
      · simp [Array.getElem?_eq_none h'] at h1
    · rw [getD_set_ne true hjm]; exact hL
  · unfold Till
    rw [getD_set_ne true (fun e => hmi e.symm)]
theorem wpL_take' {i : Nat} {oi : Oper} {v : Value} {fuel : Nat} {listed : Array Bool} {a : Act} {w : World} (hi : ops[i]? = some oi)
    (hs : Region.noSelect ops = true) (hf : Region.free md ops listed i = true) (hr : (Region.ready md ops listed).contains i = true) (hmi : (!(m == i)) = true)
    (hQ : ∀ c a w, Q (.panic c) (a.put oi.dst v) w → Q (.panic c) a w) (hy : YieldsIf P ops D oi v a) (hS : Till m C D listed w)
    (h : wpL P md ops Q (Till m C D) fuel (listed.setIfInBounds i true) (a.put oi.dst v) w) : wpL P md ops Q (Till m C D) (fuel + 1) listed a w := by
  simp only [Bool.not_eq_true', beq_eq_false_iff_ne, ne_eq] at hmi
  refine wpL_first hi (Region.noSelect_spec hs) hQ (fun _ => True) (fun _ _ _ _ _ _ => trivial) (fun L w => ?_) D (fun L w _ hs => hs.2) fuel listed a w trivial (Region.free_spec hi hf) (by simpa using hr) hy hS h
  unfold Till
  rw [getD_set_ne true (fun e => hmi e.symm)]

def AllL (P : Program) (md : Region.Mode) (ops : Array Oper) (Q : Exit → Act → World → Prop) (S : Array Bool → World → Prop) (fuel : Nat) (listed : Array Bool) (a : Act) (w : World) (rs : List Nat) : Prop :=
  ∀ i ∈ rs, wpOp P ops Q i (fun a' w' => S (listed.setIfInBounds i true) w' ∧ wpL P md ops Q S fuel (listed.setIfInBounds i true) a' w') a w
theorem AllL.nil {fuel : Nat} {listed : Array Bool} {a : Act} {w : World} : AllL P md ops Q S fuel listed a w [] := fun _ h => by cases h
theorem AllL.cons {fuel : Nat} {listed : Array Bool} {a : Act} {w : World} {i : Nat} {o : Oper} {rs : List Nat} (ho : ops[i]? = some o)
    (h : ∀ K' : Act → World → Prop, Shut (∀ a w, Till m C D (listed.setIfInBounds i true) w → (Till m C D (listed.setIfInBounds i true) w → wpL P md ops Q (Till m C D) fuel (listed.setIfInBounds i true) a w) → K' a w) → if Region.wanted o (yielded ops a.tmps) = true then Oper.wp P o a w K' Q else K' (a.put o.dst undef) w)
    (hs : AllL P md ops Q (Till m C D) fuel listed a w rs) : AllL P md ops Q (Till m C D) fuel listed a w (i :: rs) := fun j hj => by
  rcases List.mem_cons.1 hj with rfl | hj
  · exact wpOp_step ho (fun K' hK => h K' (fun a w hS hW => hK a w ⟨hS, hW hS⟩))
  · exact hs j hj
theorem wpL_ready {rs : List Nat} {fuel : Nat} {listed : Array Bool} {a : Act} {w : World} (hr : Region.ready md ops listed = rs) (hne : rs ≠ [])
    (h : AllL P md ops Q S fuel listed a w rs) : wpL P md ops Q S (fuel + 1) listed a w := ⟨fun h0 => absurd (hr ▸ h0) hne, hr ▸ h⟩
theorem wpL_done {listed : Array Bool} {a : Act} {w : World} (hr : Region.ready md ops listed = []) (h : Q .normal a w) : ∀ fuel, wpL P md ops Q S fuel listed a w
  | 0 => ⟨hr, h⟩
  | _ + 1 => ⟨fun _ => h, by rw [hr]; simp⟩
/-- The beginning. -/
theorem wp_region_L (m : Nat) (C D : World → Prop) {id : Nat} {a : Act} {w : World} (hm : P.follows .mixedOrders = true) (hC : C w.drew) (hD : D w.drew)
    (h : Till m C D (Array.replicate ops.size false) w.drew → wpL P .any ops Q (Till m C D) ops.size (Array.replicate ops.size false) a w.drew) : (Code.region id ops true).wp P Q a w :=
  wp_region_any hm (wpAny_of_L _ _ _ _ (h ⟨fun _ => hC, hD⟩))
end
end Go.Proofs.YtljmklohgpaopaaGreatDoor

namespace Go.Proofs.YtljmklohgpaopaaGreatDoor
open Go.RowKit

/-- Groups of cells, each as its element says. -/
def RowsR {α : Type} (s : Nat) (R : List Value → α → Prop) (cs : List Value) (xs : List α) : Prop := cs.length = s * xs.length ∧ ∀ k x, xs[k]? = some x → R ((cs.drop (s * k)).take s) x
theorem RowsR.nil {α : Type} (s : Nat) (R : List Value → α → Prop) : RowsR s R [] [] := ⟨rfl, fun k x h => by cases h⟩
theorem RowsR.snoc {α : Type} {s : Nat} {R : List Value → α → Prop} {cs c : List Value} {xs : List α} {x : α} (h : RowsR s R cs xs) (hc : c.length = s) (hx : R c x) : RowsR s R (cs ++ c) (xs ++ [x]) := by
  refine ⟨by rw [List.length_append, List.length_append, h.1, hc, List.length_singleton, Nat.mul_add, Nat.mul_one], fun k y hk => ?_⟩
  have hl := h.1
  by_cases hk2 : k < xs.length
  · rw [List.getElem?_append_left hk2] at hk
    have hb : s * k + s ≤ cs.length := by rw [hl, ← Nat.mul_succ]; exact Nat.mul_le_mul_left s hk2
    rw [List.drop_append_of_le_length (by omega), List.take_append_of_le_length (by rw [List.length_drop]; omega)]
    exact h.2 k y hk
  · rw [List.getElem?_append_right (by omega)] at hk
    obtain hkk : k - xs.length = 0 := by
      by_cases e : k - xs.length = 0
      · exact e
      · rw [List.getElem?_eq_none (by simp; omega)] at hk; cases hk
    rw [hkk] at hk
    obtain rfl : x = y := by simpa using hk
    obtain rfl : k = xs.length := by omega
    rw [← hl, List.drop_left, ← hc, List.take_length]
    exact hx
theorem RowsR.mono {α : Type} {s : Nat} {R R' : List Value → α → Prop} {cs : List Value} {xs : List α} (h : RowsR s R cs xs) (hR : ∀ c x, x ∈ xs → R c x → R' c x) : RowsR s R' cs xs :=
  ⟨h.1, fun k x hk => hR _ _ (List.mem_of_getElem? hk) (h.2 k x hk)⟩
/-- The cells of one element. -/
theorem RowsR.at_ {α : Type} {s : Nat} {R : List Value → α → Prop} {cs : List Value} {xs : List α} {k : Nat} {x : α} (h : RowsR s R cs xs) (hk : xs[k]? = some x) :
    ∃ c, R c x ∧ c.length = s ∧ ∀ j, j < s → cs[k * s + j]? = c[j]? := by
  refine ⟨_, h.2 k x hk, ?_, fun j hj => ?_⟩
  · obtain ⟨hlt, _⟩ := List.getElem?_eq_some_iff.1 hk
    have hb : s * k + s ≤ cs.length := by rw [h.1, ← Nat.mul_succ]; exact Nat.mul_le_mul_left s hlt
    rw [List.length_take, List.length_drop]
    omega
  · rw [List.getElem?_take_of_lt hj, List.getElem?_drop, Nat.mul_comm]

/-- The cells of an op: what it leads to lies in blocks of P. -/
def OpR (w : World) (P : Nat → Prop) (c : List Value) (o : Pl.Opn) : Prop :=
  ∃ Ac cc Ar cr, c = [.int .i64 (o.kind : Nat), .string (tstr o.table), .slice Ac o.cols.length cc, .slice Ar o.row.length cr] ∧ o.cols.length ≤ cc ∧ o.row.length ≤ cr ∧
    Src w Ac (clcs o.cols) ∧ Src w Ar (vcs o.row) ∧ (∀ p, Ac = some p → P p.block) ∧ ∀ p, Ar = some p → P p.block
theorem OpR.only {F P : Nat → Prop} {w w' : World} {c : List Value} {o : Pl.Opn} (h : OpR w P c o) (ho : Only F w w') (hF : ∀ b, P b → ¬ F b) : OpR w' P c o := by
  obtain ⟨Ac, cc, Ar, cr, h1, h2, h3, h4, h5, h6, h7⟩ := h
  exact ⟨Ac, cc, Ar, cr, h1, h2, h3, ho.src h4 (fun p hp => hF _ (h6 p hp)), ho.src h5 (fun p hp => hF _ (h7 p hp)), h6, h7⟩
theorem OpR.mono {P P' : Nat → Prop} {w : World} {c : List Value} {o : Pl.Opn} (h : OpR w P c o) (hP : ∀ b, P b → P' b) : OpR w P' c o := by
  obtain ⟨Ac, cc, Ar, cr, h1, h2, h3, h4, h5, h6, h7⟩ := h
  exact ⟨Ac, cc, Ar, cr, h1, h2, h3, h4, h5, fun p hp => hP _ (h6 p hp), fun p hp => hP _ (h7 p hp)⟩
theorem OpV.cells {w : World} {B : Nat} {v : Value} {o : Pl.Opn} (h : OpV w B v o) : ∃ c : List Value, v = .agg c.toArray ∧ c.length = 4 ∧ OpR w (fun b => B ≤ b ∧ b < w.heap.size) c o := by
  obtain ⟨va, vb, rfl, h1, h2⟩ := h
  obtain ⟨Ac, cc, rfl, h3, h4, h5⟩ := own_src h1
  obtain ⟨Ar, cr, rfl, h6, h7, h8⟩ := own_src h2
  refine ⟨_, rfl, rfl, Ac, cc, Ar, cr, rfl, h3, h6, h4, h7, fun p hp => ?_, fun p hp => ?_⟩
  · exact h1.lt _ (h5 p hp)
  · exact h2.lt _ (h8 p hp)
end Go.Proofs.YtljmklohgpaopaaGreatDoor

namespace Go.Proofs.YtljmklohgpaopaaGreatDoor
open Go.RowKit

/-- The cells of a transaction. -/
def TxR (w : World) (P : Nat → Prop) (c : List Value) (t : Pl.Txn) : Prop :=
  ∃ A cap cs, c = [.int .i64 (sig t.time), .slice A t.ops.length cap] ∧ t.ops.length ≤ cap ∧ Src w A cs ∧ RowsR 4 (OpR w P) cs t.ops ∧ ∀ p, A = some p → P p.block
theorem TxR.only {F P : Nat → Prop} {w w' : World} {c : List Value} {t : Pl.Txn} (h : TxR w P c t) (ho : Only F w w') (hF : ∀ b, P b → ¬ F b) : TxR w' P c t := by
  obtain ⟨A, cap, cs, h1, h2, h3, h4, h5⟩ := h
  exact ⟨A, cap, cs, h1, h2, ho.src h3 (fun p hp => hF _ (h5 p hp)), h4.mono (fun _ _ _ h => h.only ho hF), h5⟩
theorem TxR.mono {P P' : Nat → Prop} {w : World} {c : List Value} {t : Pl.Txn} (h : TxR w P c t) (hP : ∀ b, P b → P' b) : TxR w P' c t := by
  obtain ⟨A, cap, cs, h1, h2, h3, h4, h5⟩ := h
  exact ⟨A, cap, cs, h1, h2, h3, h4.mono (fun _ _ _ h => h.mono hP), fun p hp => hP _ (h5 p hp)⟩
/-- A block without bytes is none of a reader's. -/
theorem Rdr.off {w w' : World} {g k : Nat} {l : List UInt8} {bad : Bool} {t : TypeId} {cs : List Value} (h : Rdr w g l bad) (hB : Blk w k t cs) (hk : g ≠ k) (hcs : ∀ u ∈ cs, ∀ x, u ≠ .int .u8 x) (ho : Only (· = k) w w') : Rdr w' g l bad := by
  obtain ⟨A, cap, h1, h2, h3, h4, h5⟩ := h
  refine ⟨A, cap, h1, h2, ho.blk h3 hk, ?_, h5⟩
  rcases h4 with h4 | ⟨b, off, rfl, h4⟩
  · exact .inl h4
  · refine .inr ⟨b, off, rfl, fun i hi => ho.cell (h4 i hi) ?_⟩
    rintro rfl
    have := h4 i hi
    rw [hB.cell] at this
    exact hcs _ (List.mem_of_getElem? this) _ rfl
/-- What a round of Read's loop keeps. -/
def OpsAt (w : World) (base : Nat) (v : Value) (ops : List Pl.Opn) : Prop :=
  ∃ cs, w.ownsRow base 259 4 v ops.length cs ∧ RowsR 4 (OpR w (fun b => base ≤ b ∧ b < w.heap.size ∧ v.ownBlock ≠ some b)) cs ops
theorem OpsAt.nil (w : World) (base : Nat) : OpsAt w base (.slice none 0 0) [] := ⟨[], World.ownsRow_nil _ _ _ _, RowsR.nil _ _⟩
theorem OpsAt.only {F : Nat → Prop} {w w' : World} {base : Nat} {v : Value} {ops : List Pl.Opn} (h : OpsAt w base v ops) (ho : Only F w w') (hF : ∀ x, base ≤ x → ¬ F x) : OpsAt w' base v ops := by
  obtain ⟨cs, h1, h2⟩ := h
  exact ⟨cs, ho.own h1 (fun g hg => hF g (h1.lt g hg).1), h2.mono (fun _ _ _ h => (h.only ho (fun b hb => hF b hb.1)).mono (fun b hb => ⟨hb.1, Nat.lt_of_lt_of_le hb.2.1 ho.size, hb.2.2⟩))⟩

theorem OpsAt.snoc {w w1 w3 w4 w5 : World} {base : Nat} {v v3 : Value} {ops : List Pl.Opn} {o : Pl.Opn} {cs c : List Value} {F : Nat → Prop} (h1 : w.ownsRow base 259 4 v ops.length cs)
    (h2 : RowsR 4 (OpR w (fun b => base ≤ b ∧ b < w.heap.size ∧ v.ownBlock ≠ some b)) cs ops) (hc : c.length = 4) (ho : OpR w1 (fun b => w.heap.size ≤ b ∧ b < w1.heap.size) c o) (hbase : base ≤ w.heap.size)
    (hF : ∀ x, F x → x < base) (o1 : Only F w w1) (o13 : w1.heap.size ≤ w3.heap.size) (o3 : Below w1.heap.size w1 w3) (hg : w3.grownBy w4 v.ownBlock) (hown : w4.ownsRow base 259 4 v3 (ops.length + 1) (cs ++ c)) (hv3 : v3.ownBlock = v.ownBlock ∨ v3.ownBlock = some w3.heap.size)
    (o5 : Only F w4 w5) : OpsAt w5 base v3 (ops ++ [o]) := by
  have hs3 := Nat.le_trans o1.size o3.size
  have h35 : w3.heap.size ≤ w5.heap.size := Nat.le_trans hg.size o5.size
  have hall : Only (fun x => F x ∨ v.ownBlock = some x) w w5 := (((o1.mono (fun _ _ h => .inl h)).below o3).grown hg (fun g h => .inl (.inr h))).trans o5 (fun _ _ h => .inl h)
  have hnew : Only (fun x => F x ∨ v.ownBlock = some x) w1 w5 := (((Only.refl _ w1).below o3).grown hg (fun g h => .inl (.inr h))).trans o5 (fun _ _ h => .inl h)
  refine ⟨cs ++ c, ?_, ?_⟩
  · have := o5.own hown (fun g hg' hf => by have := (hown.lt g hg').1; have := hF g hf; omega)
    simpa using this
  · refine RowsR.snoc (h2.mono (fun c x _ hx => ?_)) hc ?_
    · refine (hx.only hall (fun b hb hf => ?_)).mono (fun b hb => ⟨hb.1, by omega, fun e => ?_⟩)
      · rcases hf with hf | hf
        · have := hF b hf; omega
        · exact hb.2.2 hf
      · rcases hv3 with e3 | e3
        · exact hb.2.2 (by rw [← e3, e])
        · rw [e3] at e; injection e with e; omega
    · refine (ho.only hnew (fun b hb hf => ?_)).mono (fun b hb => ⟨by omega, by omega, fun e => ?_⟩)
      · rcases hf with hf | hf
        · have := hF b hf; omega
        · have := (h1.lt b hf).2; omega
      · rcases hv3 with e3 | e3
        · have := (h1.lt b (by rw [← e3, e])).2; omega
        · rw [e3] at e; injection e with e; omega

end Go.Proofs.YtljmklohgpaopaaGreatDoor

namespace Go.Proofs.YtljmklohgpaopaaGreatDoor
open Go.RowKit

section
variable {P : Program} (w : World)
theorem app_str_at (base : Nat) (t u ty e : TypeId) (i : TypeInfo) (ht : P.underlying t = some (.slice e)) (hu : P.underlying u = some .string) (hi : P.info? e = some i) (hz : i.zero = some (.int .u8 0)) (hsize : i.size = 1) (hby : i.bytes = 1)
    (v : Value) (n : Nat) (xs : List Value) (hown : w.ownsRow base e 1 v n xs) (s : ByteArray) (hb : n + s.size ≤ 140737488355328) {v' : Value} {w' : World}
    (hr : (Builtin.append_ #[t, u] ty #[v, .string s]).run P w = .ok v' w') : v'.ownBlock = v.ownBlock ∨ v'.ownBlock = some w.heap.size := by
  have hxl : xs.length = n := by simpa using hown.1
  rcases hown.2 with ⟨rfl, rfl⟩ | ⟨g, cap, cur, rfl, hbg, hg, hnc, hcm, hcs, htake⟩
  · by_cases hm : s.size = 0
    · have hf := Lib.run_firstCells_string (P := P) w 1 s
      rw [hm] at hf
      have : (Builtin.append_ #[t, u] ty #[.slice none 0 0, .string s]).run P w = .ok (.slice none 0 0) w := by
        simp [Builtin.append_, run_underlying ht, run_underlying hu, sizeOf, typeInfo, hi, hsize, Builtin.lenOf, hm, hf]
      rw [this] at hr
      injection hr with h1 _
      subst h1
      exact .inl rfl
    · rw [run_append_nil_string (P := P) w t u ty e i (.int .u8 0) ht hu hi hz s (by omega) (by omega) (by rw [hby]; omega)] at hr
      injection hr with h1 _
      subst h1
      exact .inr rfl
  · by_cases hroom : n + s.size ≤ cap
    · have hcz : cur.size = cap := by simpa using hcs
      rw [Lib.run_append_room_string (P := P) w t u ty e i ht hu hi hsize g n cap cur hg s hroom (by omega)] at hr
      injection hr with h1 _
      subst h1
      exact .inl rfl
    · rw [Lib.run_append_grow_string (P := P) w t u ty e i (.int .u8 0) ht hu hi hz ⟨g, 0, none⟩ n cap xs (by rw [hsize]; simpa using hxl) (hown.cells (g := g) rfl) s (by omega) (by omega) (by rw [hby]; exact growslice_fits (by omega) (by omega))] at hr
      injection hr with h1 _
      subst h1
      exact .inr rfl
end
/-- Bytes that the call owns. -/
def Ob (w : World) (base : Nat) (v : Value) (l : List UInt8) : Prop := w.ownsRow base 5 1 v l.length (bv l)
/-- What an append does: only v's row, or a new one. -/
def Mv (w w' : World) (v v' : Value) : Prop := w.grownBy w' v.ownBlock ∧ ∀ k, k < w.heap.size → v.ownBlock ≠ some k → v'.ownBlock ≠ some k
theorem Mv.refl (w : World) (v : Value) : Mv w w v v := ⟨⟨rfl, rfl, rfl, Nat.le_refl _, fun _ _ _ => rfl⟩, fun _ _ h => h⟩
theorem Mv.trans {a b c : World} {u v x : Value} (h : Mv a b u v) (k : Mv b c v x) : Mv a c u x :=
  ⟨⟨k.1.os.trans h.1.os, k.1.tape.trans h.1.tape, k.1.output.trans h.1.output, Nat.le_trans h.1.size k.1.size, fun i hi hn =>
    (k.1.block i (Nat.lt_of_lt_of_le hi h.1.size) (fun e => h.2 i hi (fun e => hn e.symm) e.symm)).trans (h.1.block i hi hn)⟩, fun i hi hn => k.2 i (Nat.lt_of_lt_of_le hi h.1.size) (h.2 i hi hn)⟩
theorem Mv.below {a b c : World} {u v : Value} (h : Mv a b u v) (k : Below b.heap.size b c) : Mv a c u v :=
  ⟨⟨k.os.trans h.1.os, k.tape.trans h.1.tape, k.output.trans h.1.output, Nat.le_trans h.1.size k.size, fun i hi hn => (k.block i (Nat.lt_of_lt_of_le hi h.1.size)).trans (h.1.block i hi hn)⟩, h.2⟩
theorem Mv.alloc {a b : World} {u v : Value} (h : Mv a b u v) (o : Obj) : Mv a (b.alloc o) u v := h.below ((Below.refl _ _).alloc (Nat.le_refl _) _)
theorem Mv.drew {a b : World} {u v : Value} (h : Mv a b u v) : Mv a b.drew u v := ⟨⟨h.1.os, h.1.tape, h.1.output, h.1.size, h.1.block⟩, h.2⟩
theorem Mv.only {a b : World} {u v : Value} (h : Mv a b u v) : Only (fun k => u.ownBlock = some k) a b := ⟨h.1.os, h.1.tape, h.1.output, h.1.size, fun k hk hn => h.1.block k hk (fun e => hn e.symm)⟩
theorem Mv.belowB {a b : World} {u v : Value} {base : Nat} {l : List UInt8} (h : Mv a b u v) (ho : Ob a base u l) (hb : base ≤ a.heap.size) : Below base a b := h.only.toBelow hb (fun k hk e => by have := (ho.lt k e).1; omega)
theorem Mv.before {a b c : World} {u v : Value} {base : Nat} {l : List UInt8} (h : Below a.heap.size a b) (k : Mv b c u v) (ho : Ob a base u l) : Mv a c u v :=
  ⟨⟨k.1.os.trans h.os, k.1.tape.trans h.tape, k.1.output.trans h.output, Nat.le_trans h.size k.1.size, fun i hi hn => (k.1.block i (Nat.lt_of_lt_of_le hi h.size) hn).trans (h.block i hi)⟩, fun i hi hn => k.2 i (Nat.lt_of_lt_of_le hi h.size) hn⟩
theorem Ob.nil (w : World) (base : Nat) : Ob w base (.slice none 0 0) [] := World.ownsRow_nil _ _ _ _
theorem Ob.below {w w' : World} {base : Nat} {v : Value} {l : List UInt8} (h : Ob w base v l) (k : Below w.heap.size w w') : Ob w' base v l := (Only.of_below k (fun _ => False)).own h (fun _ _ h => h)
theorem Ob.alloc {w : World} {base : Nat} {v : Value} {l : List UInt8} (h : Ob w base v l) (o : Obj) : Ob (w.alloc o) base v l := World.ownsRow.alloc h o
theorem Ob.bytes {w : World} {base : Nat} {v : Value} {l : List UInt8} (h : Ob w base v l) : ∃ A cap, v = .slice A l.length cap ∧ l.length ≤ cap ∧ BytesAt w A l ∧ ∀ p, A = some p → base ≤ p.block ∧ p.block < w.heap.size := by
  obtain ⟨A, cap, h1, h2, h3, h4⟩ := own_src h
  exact ⟨A, cap, h1, h2, h3.bytes, fun p hp => h.lt _ (h4 p hp)⟩
/-- A call that lays bytes behind others. -/
def Wr (w : World) (base : Nat) (v : Value) (l : List UInt8) (e : Ending) (w' : World) : Prop := ∃ v', e = .returned v' ∧ Ob w' base v' l ∧ Mv w w' v v'

section
variable {ops : Array Oper} {rest : List Oper} {o : Oper} {a : Act} {K : Act → World → Prop} {Q : Exit → Act → World → Prop} {w : World} {E : Prop}
theorem wp_ob (s x : Operand) (ho : o.op = .call { callee := .builtin .append, args := #[s, x], argTypes := #[25, 25] }) {base : Nat} {v : Value} {l : List UInt8} (hs : a.eval s = v) (hown : Ob w base v l)
    (A : Option Addr) (m c : Nat) (news : List UInt8) (hx : a.eval x = .slice A m c) (hm : news.length = m) (hr : Src w A (bv news)) (hl : l.length + m ≤ 70368744177664) (hb : base ≤ w.heap.size)
    (h : ∀ v' w', Ob w' base v' (l ++ news) → Mv w w' v v' → K (a.put o.dst v') w') : o.wp Tryz.prog a w K Q := by
  obtain ⟨i0, hi, hz0, hz1, hz2⟩ := info_parts Tryz.infoByte
  subst hm
  refine wp_append_src w s x 25 ho base 5 i0 (.int .u8 0) 1 1 Tryz.underlying25 hi hz0 hz1 hz2 rfl (by decide) v l.length (bv l) hs hown A news.length c (bv news) hx (by simp [bv]) hr (bv_one _) (by simp only [maxLen]; omega) (byte_room (n := l.length) (m := news.length) (by omega)) hb ?_
  intro v' w' h1 h2 h3
  refine h v' w' (by rw [Ob, List.length_append, bv_append]; exact h1) ⟨h2, fun k hk hn => ?_⟩
  rcases h3 with e | e
  · rw [e]; exact hn
  · rw [e]; intro e; injection e; omega
theorem wpList_ob (hgd : o.guard = none) (s x : Operand) (ho : o.op = .call { callee := .builtin .append, args := #[s, x], argTypes := #[25, 25] }) {base : Nat} {v : Value} {l : List UInt8} (hs : a.eval s = v) (hown : Ob w base v l)
    (A : Option Addr) (m c : Nat) (news : List UInt8) (hx : a.eval x = .slice A m c) (hm : news.length = m) (hr : Src w A (bv news)) (hl : l.length + m ≤ 70368744177664) (hb : base ≤ w.heap.size)
    (h : ∀ v' w', Ob w' base v' (l ++ news) → Mv w w' v v' → wpList Tryz.prog ops Q rest (a.put o.dst v') w') : wpList Tryz.prog ops Q (o :: rest) a w :=
  wpList_plain hgd fun _ hK => wp_ob s x ho hs hown A m c news hx hm hr hl hb fun v' w' h1 h2 => hK _ _ (h v' w' h1 h2)
theorem step_ob (hgd : o.guard = none) (s x : Operand) (ho : o.op = .call { callee := .builtin .append, args := #[s, x], argTypes := #[25, 25] }) {base : Nat} {v : Value} {l : List UInt8} (hs : a.eval s = v) (hown : Ob w base v l)
    (A : Option Addr) (m c : Nat) (news : List UInt8) (hx : a.eval x = .slice A m c) (hm : news.length = m) (hr : Src w A (bv news)) (hl : l.length + m ≤ 70368744177664) (hb : base ≤ w.heap.size)
    (h : ∀ v' w', Ob w' base v' (l ++ news) → Mv w w' v v' → K (a.put o.dst v') w') : if Region.wanted o (yielded ops a.tmps) = true then Oper.wp Tryz.prog o a w K Q else E := by
  rw [if_pos (by simp [Region.wanted, hgd])]
  exact wp_ob s x ho hs hown A m c news hx hm hr hl hb h
theorem wp_obs (s x : Operand) (ho : o.op = .call { callee := .builtin .append, args := #[s, x], argTypes := #[25, 9] }) {base : Nat} {v : Value} {l : List UInt8} (hs : a.eval s = v) (hown : Ob w base v l)
    (news : List UInt8) (hx : a.eval x = .string (tstr news)) (hl : l.length + news.length ≤ 70368744177664) (hb : base ≤ w.heap.size)
    (h : ∀ v' w', Ob w' base v' (l ++ news) → Mv w w' v v' → K (a.put o.dst v') w') : o.wp Tryz.prog a w K Q := by
  obtain ⟨i0, hi, hz0, hz1, hz2⟩ := info_parts Tryz.infoByte
  have hsz := tstr_size news
  obtain ⟨v', w', hr, h2, h3, h4⟩ := Lib.run_append_own_string (P := Tryz.prog) w base 25 9 o.type 5 i0 Tryz.underlying25 Tryz.underlying9 hi hz0 hz1 hz2 v l.length (bv l) hown (tstr news) (by rw [hsz]; simp only [maxLen]; omega) (by rw [hsz]; omega) hb
  have hat := app_str_at (P := Tryz.prog) w base 25 9 o.type 5 i0 Tryz.underlying25 Tryz.underlying9 hi hz0 hz1 hz2 v l.length (bv l) hown (tstr news) (by rw [hsz]; omega) hr
  unfold Oper.wp execOp
  simp only [ho, resolve, invoke, builtin, Sem.run_bind, Sem.run_pure, Result.andThen_ok, List.map_toArray, List.map_cons, List.map_nil, hs, hx, hr]
  refine h v' w' (by rw [Ob, List.length_append, bv_append]; rw [hsz] at h2; exact h2) ⟨h3, fun k hk hn => ?_⟩
  rcases hat with e | e
  · rw [e]; exact hn
  · rw [e]; intro e; injection e; omega
theorem wpList_obs (hgd : o.guard = none) (s x : Operand) (ho : o.op = .call { callee := .builtin .append, args := #[s, x], argTypes := #[25, 9] }) {base : Nat} {v : Value} {l : List UInt8} (hs : a.eval s = v) (hown : Ob w base v l)
    (news : List UInt8) (hx : a.eval x = .string (tstr news)) (hl : l.length + news.length ≤ 70368744177664) (hb : base ≤ w.heap.size)
    (h : ∀ v' w', Ob w' base v' (l ++ news) → Mv w w' v v' → wpList Tryz.prog ops Q rest (a.put o.dst v') w') : wpList Tryz.prog ops Q (o :: rest) a w :=
  wpList_plain hgd fun _ hK => wp_obs s x ho hs hown news hx hl hb fun v' w' h1 h2 => hK _ _ (h v' w' h1 h2)
end

theorem src_one (w : World) (c : Nat) (hc : c < 256) : Src (w.alloc (.cells #[.int .u8 (c : Int)] 5)) (some ⟨w.heap.size, 0, none⟩) (bv [UInt8.ofNat c]) := by
  have : bv [UInt8.ofNat c] = [.int .u8 (c : Int)] := by simp [bv]; omega
  rw [this]
  exact Src.of_blk (Blk.new w 5 _)
end Go.Proofs.YtljmklohgpaopaaGreatDoor

namespace Go.Proofs.YtljmklohgpaopaaGreatDoor
open Go.RowKit

theorem wrap_u8 {n : Nat} (h : n < 256) : IntKind.u8.wrap (n : Int) = n := by rw [IntKind.wrap_u8]; omega
theorem Wr.of_put {w : World} {base n s : Nat} {v : Value} {l x : List UInt8} (hl : l.length = n) (hx : x.length = s) (ho : Ob w base v l) {e : Ending} {w' : World}
    (h : ∃ v', e = .returned v' ∧ w'.ownsRow base 5 1 v' (n + s) (bv (l ++ x)) ∧ Below base w w' ∧ (∀ k, k < w.heap.size → v.ownBlock ≠ some k → w'.heap[k]? = w.heap[k]? ∧ v'.ownBlock ≠ some k)) : Wr w base v (l ++ x) e w' := by
  obtain ⟨v', rfl, h1, h2, h3⟩ := h
  subst hl hx
  exact ⟨v', rfl, by rw [Ob, List.length_append]; exact h1, ⟨h2.os, h2.tape, h2.output, h2.size, fun k hk hn => (h3 k hk (fun e => hn e.symm)).1⟩, fun k hk hn => (h3 k hk hn).2⟩
theorem put_ob (v : Value) (l : List UInt8) (x s base : Nat) (w : World) (hown : Ob w base v l) (hbase : base ≤ w.heap.size) (hx : x < 18446744073709551616) (hs : s ≤ 8) (hs0 : 0 < s) (hn : l.length ≤ 70368744177664) :
    Calls Tryz.prog 130 #[v, .int .u64 x, .int .i64 s] w (Wr w base v (l ++ Pl.be s x)) :=
  (put_any v l.length l x s base w (.inl hown) hbase hx hs hs0 hn).mono fun _ _ h => Wr.of_put rfl (Pl.be_length s x) hown h
theorem Wr.more {w w1 : World} {base : Nat} {v v1 : Value} {l : List UInt8} {e : Ending} {w' : World} (m : Mv w w1 v v1) (h : Wr w1 base v1 l e w') : Wr w base v l e w' := by
  obtain ⟨v', h1, h2, h3⟩ := h
  exact ⟨v', h1, h2, m.trans h3⟩

theorem flat_at {α β : Type} {f : α → List β} {s : Nat} (hf : ∀ x, (f x).length = s) : ∀ (xs : List α) (k : Nat) (x : α), xs[k]? = some x → ∀ j, j < s → (xs.flatMap f)[k * s + j]? = (f x)[j]?
  | [], k, x, h, j, hj => by cases h
  | a :: r, 0, x, h, j, hj => by
    obtain rfl : a = x := by simpa using h
    rw [List.flatMap_cons, Nat.zero_mul, Nat.zero_add, List.getElem?_append_left (by rw [hf]; exact hj)]
  | a :: r, k + 1, x, h, j, hj => by
    rw [List.flatMap_cons, List.getElem?_append_right (by rw [hf, Nat.succ_mul]; omega), hf, show (k + 1) * s + j - s = k * s + j by rw [Nat.succ_mul]; omega]
    exact flat_at hf r k x (by simpa using h) j hj
theorem flat_succ {α β : Type} (f : α → List β) {xs : List α} {k : Nat} {x : α} (h : xs[k]? = some x) : (xs.take (k + 1)).flatMap f = (xs.take k).flatMap f ++ f x := by
  rw [List.take_add_one, h, List.flatMap_append]
  simp
/-- A slice's place is none of v's own. -/
def Off (w : World) (v : Value) (A : Option Addr) : Prop := ∀ p, A = some p → p.block < w.heap.size ∧ v.ownBlock ≠ some p.block
theorem Off.src {w w' : World} {v v' : Value} {A : Option Addr} {cs : List Value} (h : Off w v A) (m : Mv w w' v v') (hs : Src w A cs) : Src w' A cs := m.only.src hs (fun p hp => (h p hp).2)
end Go.Proofs.YtljmklohgpaopaaGreatDoor
