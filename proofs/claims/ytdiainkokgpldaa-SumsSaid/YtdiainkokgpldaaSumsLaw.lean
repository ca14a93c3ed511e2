/- The law Sums walked: for every text it returns true, and nothing that was there has turned. -/
import Derived.Test.YtdiainkokgpldaaStr
namespace Go.Proofs.Ytdiainkokgpldaa
open Go.RowKit

theorem lent_bytes (w : World) (l : List UInt8) : BytesAt (w.alloc (.cells (lentRow l).toArray 5)) (some ⟨w.heap.size, 0, none⟩) l := by
  refine .inr ⟨_, _, rfl, fun i h => ?_⟩
  rw [Nat.zero_add, World.cell?_alloc_new]
  simp only [List.getElem?_toArray, lentRow, bv_append]
  rw [List.getElem?_append_left (by simpa using h), getb _ i h]
theorem BytesAt.below {w w' : World} {b off : Nat} {l : List UInt8} {B : Nat} (h : BytesAt w (some ⟨b, off, none⟩) l) (hb : Below B w w') (hB : b < B) : BytesAt w' (some ⟨b, off, none⟩) l := by
  rcases h with h | ⟨b', off', e, h⟩
  · exact .inl h
  · cases e
    exact .inr ⟨_, _, rfl, fun i hi => (hb.cell (p := ⟨b, off + i, none⟩) hB).trans (h i hi)⟩

set_option maxHeartbeats 400000 in
theorem sums_law (s : ByteArray) (w : World) (hm : s.size ≤ 140737488351232) :
    Calls Try.prog 3 #[.string s] w fun e w' => e = .returned (.bool true) ∧ Below w.heap.size w w' := by
  go_enter Try.func3, Try.ntmps3
  go_wp2_with fail
  refine (lent_any s _ hm).mono ?_
  rintro e w1 ⟨rfl, rfl⟩
  have hb1 := lent_bytes w s.data.toList
  go_wp2_with fail
  refine (plainSum_any _ _ s.data.toList _ hb1 (by show s.size ≤ _; omega)).mono ?_
  rintro e w2 ⟨rfl, hbel2⟩
  have hb2 := hb1.below hbel2 (by simp)
  go_wp2_with fail
  refine (check_any _ _ s.data.toList _ hb2 (by show s.size ≤ _; omega)).mono ?_
  rintro e w3 ⟨rfl, rfl⟩
  have hblk : Blk (w.alloc (.cells (lentRow s.data.toList).toArray 5)) w.heap.size 5 (lentRow s.data.toList) := Blk.new _ _ _
  have hblk2 := hblk.below hbel2 (by simp)
  go_wp2_with fail
  refine (stays_any w.heap.size s _ hm hblk2).mono ?_
  rintro e w4 ⟨rfl, hon4, _⟩
  go_wp2_with fail
  refine (refSum_any s _ (by omega)).mono ?_
  rintro e w5 ⟨rfl, hbel5⟩
  go_wp2_with fail
  refine (refCheck_any s _ (by omega)).mono ?_
  rintro e w6 ⟨rfl, rfl⟩
  go_wp2
  go_ret
  have h2 : Below w.heap.size w w2 := ((Below.refl _ _).alloc (Nat.le_refl _) _).trans (hbel2.mono (by simp))
  have h4 : Below w.heap.size w w4 := h2.trans (below_of_only hon4 (Nat.le_refl _) h2.size)
  exact ⟨rfl, h4.trans (hbel5.mono h4.size)⟩
end Go.Proofs.Ytdiainkokgpldaa
