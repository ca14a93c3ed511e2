/- The walks of sums.Node and Root. -/
import Derived.Test.YtljmklohgpaopaaDoorTreeA
import Derived.Deep.RegionWith
import Derived.Deep.RegionHeld3
namespace Go.Proofs.YtljmklohgpaopaaDoor
open Go.RowKit

/-- The four cells of a hash. -/
def hc (n : Nat) : List Value := [.int .u8 ((n : Int) / 16777216), .int .u8 ((n : Int) / 65536 % 256), .int .u8 ((n : Int) / 256 % 256), .int .u8 ((n : Int) % 256)]
theorem hc_bytes (n : Nat) (hn : n < 4294967296) : bv (Pl.be 4 n) = hc n := by
  have := Pl.hashText_eq n
  unfold Pl.hashText at this
  rw [this]
  simp [bv, hc]
  omega
theorem hc_one (n : Nat) : ∀ v ∈ hc n, v.oneCell' = true := by
  intro v hv
  simp [hc] at hv
  rcases hv with rfl | rfl | rfl | rfl <;> rfl
theorem hashVal_hc (n : Nat) : hashVal n = .agg (hc n).toArray := rfl

theorem own_newAt {w : World} (base n : Nat) (e : TypeId) (x : Value) (hn : n = w.heap.size) (hb : base ≤ n) : (w.alloc (.cells #[x] e)).ownsRow base e 1 (.slice (some ⟨n, 0, none⟩) 1 1) 1 [x] := by
  subst hn
  exact ⟨rfl, .inr ⟨w.heap.size, 1, #[x], rfl, hb, heap_alloc_new w _, Nat.le_refl _, by simp [maxLen], rfl, rfl⟩⟩

set_option maxHeartbeats 1000000 in
theorem node_any (a b : Nat) (w : World) (ha : a < 4294967296) (hb : b < 4294967296) :
    Calls Tryd.prog 114 #[hashVal a, hashVal b] w fun e w' => ∃ A' cap', e = .returned (.slice A' 9 cap') ∧ BytesAt w' A' (1 :: (Pl.be 4 a ++ Pl.be 4 b)) ∧ Below w.heap.size w w' := by
  obtain ⟨i0, hi, hz0, hz1, hz2⟩ := info_parts Tryd.infoByte
  have hba := hc_bytes a ha
  have hbb := hc_bytes b hb
  have HA := Lib.hid hba
  have HB := Lib.hid hbb
  clear hba hbb
  have B1 : Blk ((w.alloc (.cells (hc a).toArray 73)).alloc (.cells (hc b).toArray 73)) w.heap.size 73 (hc a) := (Blk.new _ _ _).alloc _
  have B2 : Blk ((w.alloc (.cells (hc a).toArray 73)).alloc (.cells (hc b).toArray 73)) (w.heap.size + 1) 73 (hc b) := Blk.newAt _ _ _ _ (by simp)
  have S1 := Src.of_blk (B1.alloc (.cells #[.int .u8 1] 5))
  have B3 := B2.alloc (.cells #[.int .u8 1] 5)
  have own1 := own_newAt (w := (w.alloc (.cells (hc a).toArray 73)).alloc (.cells (hc b).toArray 73)) w.heap.size (w.heap.size + 1 + 1) 5 (.int .u8 1) (by simp) (by omega)
  have S1' := Lib.hid S1
  have B3' := Lib.hid B3
  have own1' := Lib.hid own1
  clear B1 B2 S1 B3 own1
  go_enter Tryd.func114, Tryd.ntmps114
  go_wp2_with (first
    | (at_builtin
       refine wpList_append_src _ rfl (.tmp 6) (.tmp 7) 23 rfl w.heap.size 5 i0 (.int .u8 0) 1 1 Tryd.underlying23 hi hz0 hz1 hz2 rfl (by decide) (.slice (some ⟨w.heap.size + 1 + 1, 0, none⟩) 1 1) 1 [.int .u8 1] rfl own1'.out (some ⟨w.heap.size, 0, none⟩) 4 4 (hc a) rfl rfl S1'.out (hc_one a) (by simp only [maxLen]; omega) (byte_room (by omega)) (by simp; omega) ?_
       intro v1 w1 hown1 hg1 hat1
       have S2 := Lib.hid (Src.of_blk (B3'.out.grown hg1 (by simp [Value.ownBlock])))
       have hlt1 := hg1.size)
    | (at_builtin
       refine wpList_append_src _ rfl (.tmp 9) (.tmp 10) 23 rfl w.heap.size 5 i0 (.int .u8 0) 1 1 Tryd.underlying23 hi hz0 hz1 hz2 rfl (by decide) v1 5 _ rfl hown1 (some ⟨w.heap.size + 1, 0, none⟩) 4 4 (hc b) rfl rfl S2.out (hc_one b) (by simp only [maxLen]; omega) (byte_room (by omega)) (by simp at hlt1; omega) ?_
       intro v2 w2 hown2 hg2 hat2))
  obtain ⟨A1, cap1, rfl, hcap, hsrc, _⟩ := own_src hown2
  go_wp2
  go_ret
  refine ⟨A1, cap1, by simp, Src.bytes ?_, ?_⟩
  · have : bv (1 :: (Pl.be 4 a ++ Pl.be 4 b)) = [.int .u8 1] ++ hc a ++ hc b := by
      rw [← HA.out, ← HB.out]
      simp [bv]
    rw [this]
    exact hsrc
  · have h1 : Below w.heap.size w w1 := ((((Below.refl _ _).alloc (Nat.le_refl _) _).alloc (by simp) _).alloc (by simp; omega) _).grown hg1 (by simp; omega) (fun k hk => by cases hk; simp; omega)
    refine h1.grown hg2 h1.size (fun k hk => ?_)
    rcases hat1 with e | e
    · rw [e] at hk; cases hk; simp; omega
    · rw [e] at hk; cases hk; simp; omega
end Go.Proofs.YtljmklohgpaopaaDoor
