/- The walks of sums.path and Path. -/
import Derived.Test.YtljmklohgpaopaaDoorTreeP
namespace Go.Proofs.YtljmklohgpaopaaDoor
open Go.RowKit

/-- Hashes as the cells of a row. -/
def hcs (ps : List Nat) : List Value := ps.flatMap hc
theorem hcs_len (ps : List Nat) : (hcs ps).length = ps.length * 4 := by
  induction ps with
  | nil => rfl
  | cons a r ih => simp only [hcs, List.flatMap_cons, List.length_append] at ih ⊢; rw [ih]; simp [hc]; omega
theorem hcs_append (a b : List Nat) : hcs (a ++ b) = hcs a ++ hcs b := by simp [hcs]
theorem hcs_one (n : Nat) : hcs [n] = hc n := by simp [hcs]
theorem hcs_oneCell (ps : List Nat) : ∀ v ∈ hcs ps, v.oneCell' = true := by
  intro v hv
  obtain ⟨n, _, h⟩ := List.mem_flatMap.1 hv
  exact hc_one n v h

theorem own_below {w w' : World} {base : Nat} {e : TypeId} {size n : Nat} {v : Value} {xs : List Value} (h : w.ownsRow base e size v n xs) (hb : Below w.heap.size w w') : w'.ownsRow base e size v n xs := by
  refine h.kept (only_of_below hb none) ?_
  cases v.ownBlock
  · exact .inl rfl
  · exact .inr (by simp)

theorem Tryd.infoHash : (Tryd.prog.info? 73).map (fun i => (i.zero, i.size, i.bytes)) = some (some (hashVal 0), 4, 4) := by kernel_rfl

theorem hash_room {n m : Nat} (h : n + m ≤ 17592186044416) : ∀ old, old < n + m → Builtin.nextslicecap (n + m) old * 4 ≤ 281474976710656 := by
  intro old ho
  have := nextslicecap_le54 ho
  omega

theorem size_alloc_le {n : Nat} {w : World} (h : n ≤ w.heap.size) (o : Obj) : n ≤ (w.alloc o).heap.size := Nat.le_trans h (by simp)

end Go.Proofs.YtljmklohgpaopaaDoor
