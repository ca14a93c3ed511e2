/- The walk of sums.Root. -/
import Derived.Test.YtljmklohgpaopaaDoorTreeB
namespace Go.Proofs.YtljmklohgpaopaaDoor
open Go.RowKit

/-- The address leads to a row of slices that read as these texts. -/
def BB (w : World) (A : Option Addr) (ls : List (List UInt8)) : Prop :=
  ls = [] ∨ ∃ b off, A = some ⟨b, off, none⟩ ∧ ∀ (i : Nat) l, ls[i]? = some l → l.length ≤ 140737488351232 ∧ ∃ A' cap, l.length ≤ cap ∧ w.cell? ⟨b, off + i, none⟩ = some (.slice A' l.length cap) ∧ BytesAt w A' l
theorem BB.keep {w w' : World} {A : Option Addr} {ls : List (List UInt8)} (h : BB w A ls) (hb : Below w.heap.size w w') : BB w' A ls := by
  rcases h with h | ⟨b, off, rfl, h⟩
  · exact .inl h
  · refine .inr ⟨b, off, rfl, fun i l hl => ?_⟩
    obtain ⟨h1, A', cap, h2, h3, h4⟩ := h i l hl
    exact ⟨h1, A', cap, h2, below_keeps hb _ _ h3, h4.keep hb⟩
theorem BB.take {w : World} {A : Option Addr} {ls : List (List UInt8)} (h : BB w A ls) (k : Nat) : BB w A (ls.take k) := by
  rcases h with rfl | ⟨b, off, rfl, h⟩
  · exact .inl (by simp)
  · refine .inr ⟨b, off, rfl, fun i l hl => ?_⟩
    rw [List.getElem?_take] at hl
    split at hl
    · exact h i l hl
    · cases hl
theorem BB.drop {w : World} {b off : Nat} {ls : List (List UInt8)} (h : BB w (some ⟨b, off, none⟩) ls) (k : Nat) : BB w (some ⟨b, off + k, none⟩) (ls.drop k) := by
  rcases h with rfl | ⟨b', off', e, h⟩
  · exact .inl (by simp)
  · cases e
    refine .inr ⟨_, _, rfl, fun i l hl => ?_⟩
    rw [List.getElem?_drop] at hl
    rw [Nat.add_assoc]
    exact h _ l hl
theorem BB.addr {w : World} {A : Option Addr} {ls : List (List UInt8)} (h : BB w A ls) (hn : 0 < ls.length) : ∃ b off, A = some ⟨b, off, none⟩ := by
  rcases h with rfl | ⟨b, off, rfl, _⟩
  · simp at hn
  · exact ⟨b, off, rfl⟩
theorem BB.at_ {w : World} {b off : Nat} {ls : List (List UInt8)} (h : BB w (some ⟨b, off, none⟩) ls) (i : Nat) (l : List UInt8) (hl : ls[i]? = some l) :
    l.length ≤ 140737488351232 ∧ ∃ A' cap, l.length ≤ cap ∧ w.cell? ⟨b, off + i, none⟩ = some (.slice A' l.length cap) ∧ BytesAt w A' l := by
  rcases h with rfl | ⟨b', off', e, h⟩
  · simp at hl
  · cases e
    exact h i l hl

theorem undrew {B : Nat} {a w : World} (h : Below B a.drew w) : Below B a w := ⟨h.os, h.tape, h.output, h.size, h.block⟩
theorem nil_bytes (w : World) : BytesAt w none [] := .inl rfl

theorem Blk.set4 {w : World} {g : Nat} {t : TypeId} {a0 a1 a2 a3 : Value} (h : Blk w g t [a0, a1, a2, a3]) (x0 x1 x2 x3 : Value) :
    Blk ((((w.setCell ⟨g, 0, none⟩ x0).setCell ⟨g, 1, none⟩ x1).setCell ⟨g, 2, none⟩ x2).setCell ⟨g, 3, none⟩ x3) g t [x0, x1, x2, x3] :=
  (((h.set_ 0 x0).set_ 1 x1).set_ 2 x2).set_ 3 x3
theorem below_set4 {B : Nat} {a w : World} (h : Below B a w) {g : Nat} (hg : B ≤ g) (x0 x1 x2 x3 : Value) :
    Below B a ((((w.setCell ⟨g, 0, none⟩ x0).setCell ⟨g, 1, none⟩ x1).setCell ⟨g, 2, none⟩ x2).setCell ⟨g, 3, none⟩ x3) :=
  (((h.setCell hg x0).setCell hg x1).setCell hg x2).setCell hg x3
theorem loadVar_hash (w : World) (g n : Nat) (h : Blk w g 73 (hc n)) : (loadVar 73 ⟨g, 0, none⟩).run Tryd.prog w = .ok (hashVal n) w := by
  have c0 := h.cell 0
  have c1 := h.cell 1
  have c2 := h.cell 2
  have c3 := h.cell 3
  simp only [hc, List.getElem?_cons_succ, List.getElem?_cons_zero] at c0 c1 c2 c3
  simp [go_sem, c0, c1, c2, c3, hashVal]

theorem results_hash {fn : Func} {t : Tmp} {tmps : Array Value} {w : World} {g n : Nat} (h : fn.results = #[.cell t 73]) (ht : tmps.getD t undef = .pointer (some ⟨g, 0, none⟩)) (hB : Blk w g 73 (hc n)) :
    (results fn tmps).run Tryd.prog w = .ok (hashVal n) w := by
  have hl := loadVar_hash w g n hB
  simp only [Array.getD_eq_getD_getElem?] at ht
  simp [results, h, ht, hl, asAddr]

theorem facts4 {w : World} {g : Nat} {t : TypeId} {a0 a1 a2 a3 : Value} (h : Blk w g t [a0, a1, a2, a3]) :
    w.cell? ⟨g, 0, none⟩ = some a0 ∧ w.cell? ⟨g, 1, none⟩ = some a1 ∧ w.cell? ⟨g, 2, none⟩ = some a2 ∧ w.cell? ⟨g, 3, none⟩ = some a3 ∧
    w.frozen? ⟨g, 0, none⟩ = false ∧ w.frozen? ⟨g, 1, none⟩ = false ∧ w.frozen? ⟨g, 2, none⟩ = false ∧ w.frozen? ⟨g, 3, none⟩ = false :=
  ⟨h.cell 0, h.cell 1, h.cell 2, h.cell 3, h.frozen 0, h.frozen 1, h.frozen 2, h.frozen 3⟩
theorem Blk.hash0 (w : World) : Blk (w.alloc (.cells #[.int .u8 0, .int .u8 0, .int .u8 0, .int .u8 0] 73)) w.heap.size 73 [.int .u8 0, .int .u8 0, .int .u8 0, .int .u8 0] := Blk.new w _ _

theorem root_join (w w1 w2 w3 w4 : World) (o : Obj) (h1 : Below (w.alloc o).heap.size (w.alloc o) w1) (h2 : Below w1.heap.size w1 w2) (h3 : Below w2.heap.size w2 w3) (h4 : Below w3.heap.size w3 w4) :
    Below (w.alloc o).heap.size (w.alloc o) w4 ∧ Below w.heap.size w w4 := by
  have h12 := h1.trans (h2.mono h1.size)
  have h13 := h12.trans (h3.mono h12.size)
  have h14 := h13.trans (h4.mono h13.size)
  exact ⟨h14, ((Below.refl _ _).alloc (Nat.le_refl _) _).trans (h14.mono (by simp))⟩

theorem Tryd.sizeByte2 : (Tryd.prog.info? 5).map (·.size) = some 1 := by kernel_rfl

theorem hc_hashOf (l : List UInt8) : bv (l.take (Nat.min l.length 4)) ++ List.drop (0 + Nat.min l.length 4) [.int .u8 0, .int .u8 0, .int .u8 0, .int .u8 0] = hc (Pl.hashOf l) := by
  rw [← hc_bytes _ (Pl.hashOf_lt l), Pl.be_hashOf]
  match l with
  | [] => rfl
  | [_] => rfl
  | [_, _] => rfl
  | [_, _, _] => rfl
  | a :: b :: c :: d :: r =>
    have h4 : Nat.min (a :: b :: c :: d :: r).length 4 = 4 := by simp
    rw [h4]
    rfl

end Go.Proofs.YtljmklohgpaopaaDoor
