/- The walks of plain's Path and Climb. -/
import Derived.Test.YtljmklohgpaopaaDoorTreeY
namespace Go.Proofs.YtljmklohgpaopaaDoor
open Go.RowKit

theorem pstr_nil : pstr [] = ⟨#[]⟩ := rfl
/-- The result in plain data stands in a cell of its own. -/
theorem results_err2 {fn : Func} {s t : Tmp} {tmps : Array Value} {w : World} {g : Nat} {v : Value} {k : Int} {u : ByteArray} (h : fn.results = #[.tmp s, .cell t 27]) (hv : tmps.getD s undef = v) (ht : tmps.getD t undef = .pointer (some ⟨g, 0, none⟩)) (hB : Blk w g 27 [.int .i64 k, .string u, .bool true]) :
    (results fn tmps).run Tryd.prog w = .ok (.tuple #[v, errA k u]) w := by
  have c0 := hB.cell 0
  have c1 := hB.cell 1
  have c2 := hB.cell 2
  simp only [List.getElem?_cons_succ, List.getElem?_cons_zero] at c0 c1 c2
  simp only [Array.getD_eq_getD_getElem?] at ht hv
  simp [results, h, ht, hv, go_sem, c0, c1, c2, errA, asAddr]

theorem facts3 {w : World} {g : Nat} {t : TypeId} {a0 a1 a2 : Value} (h : Blk w g t [a0, a1, a2]) :
    w.cell? ⟨g, 0, none⟩ = some a0 ∧ w.cell? ⟨g, 1, none⟩ = some a1 ∧ w.cell? ⟨g, 2, none⟩ = some a2 ∧
    w.frozen? ⟨g, 0, none⟩ = false ∧ w.frozen? ⟨g, 1, none⟩ = false ∧ w.frozen? ⟨g, 2, none⟩ = false :=
  ⟨h.cell 0, h.cell 1, h.cell 2, h.frozen 0, h.frozen 1, h.frozen 2⟩
theorem Blk.set3 {w : World} {g : Nat} {t : TypeId} {a0 a1 a2 : Value} (h : Blk w g t [a0, a1, a2]) (x0 x1 x2 : Value) :
    Blk (((w.setCell ⟨g, 0, none⟩ x0).setCell ⟨g, 1, none⟩ x1).setCell ⟨g, 2, none⟩ x2) g t [x0, x1, x2] :=
  ((h.set_ 0 x0).set_ 1 x1).set_ 2 x2
theorem below_set3 {B : Nat} {a w : World} (h : Below B a w) {g : Nat} (hg : B ≤ g) (x0 x1 x2 : Value) :
    Below B a (((w.setCell ⟨g, 0, none⟩ x0).setCell ⟨g, 1, none⟩ x1).setCell ⟨g, 2, none⟩ x2) :=
  ((h.setCell hg x0).setCell hg x1).setCell hg x2
def err0 : Obj := .cells #[.int .i64 0, .string ⟨#[]⟩, .bool false] 27

/-- The four cells of hash k in a row of hashes. -/
theorem Src.hashAt {w : World} {b off k x : Nat} {ps : List Nat} (h : Src w (some ⟨b, off, none⟩) (hcs ps)) (hk : ps[k]? = some x) :
    w.cell? ⟨b, off + k * 4, none⟩ = some (.int .u8 ((x : Int) / 16777216)) ∧ w.cell? ⟨b, off + k * 4 + 1, none⟩ = some (.int .u8 ((x : Int) / 65536 % 256)) ∧
    w.cell? ⟨b, off + k * 4 + 2, none⟩ = some (.int .u8 ((x : Int) / 256 % 256)) ∧ w.cell? ⟨b, off + k * 4 + 3, none⟩ = some (.int .u8 ((x : Int) % 256)) := by
  have hlt : k < ps.length := by
    rcases Nat.lt_or_ge k ps.length with h' | h'
    · exact h'
    · rw [List.getElem?_eq_none h'] at hk; cases hk
  have hx : ps[k] = x := by rw [List.getElem?_eq_getElem hlt] at hk; exact Option.some.inj hk
  have h2 : Src w (some ⟨b, off, none⟩) (hcs (ps.take k ++ [x])) := by
    have := h.take ((k + 1) * 4)
    rw [← hx, ← List.take_succ_eq_append_getElem hlt]
    have e : hcs ps = hcs (ps.take (k + 1)) ++ hcs (ps.drop (k + 1)) := by rw [← hcs_append, List.take_append_drop]
    rw [e, List.take_left' (by rw [hcs_len, List.length_take, Nat.min_eq_left (by omega)])] at this
    exact this
  exact h2.last4 (by rw [List.length_take]; omega)

theorem hash_room2 {n m : Nat} (h : n + m ≤ 35184372088832) : ∀ old, old < n + m → Builtin.nextslicecap (n + m) old * 4 ≤ 281474976710656 := by
  intro old ho
  have := nextslicecap_le54 ho
  omega

end Go.Proofs.YtljmklohgpaopaaDoor
