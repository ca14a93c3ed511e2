/- The reader's calls, told with how the evidence is taken apart. -/
import Derived.Test.YtljmklohgpaopaaDoorChainC
import Derived.Test.YtljmklohgpaopaaDoorTreeX
namespace Go.Proofs.YtljmklohgpaopaaDoor
open Go.RowKit

theorem num_st {o : Option Pl.Ev} {f : List UInt8 → List UInt8 → Option Pl.Ev} (g n : Nat) (l : List UInt8) (bad : Bool) (w : World) (h : Rdr w g l bad) (hn : n ≤ 7) (hs : Pl.St o bad (Pl.bt n l f)) :
    Calls Tryd.prog 81 #[.pointer (some ⟨g, 0, none⟩), .int .i64 n] w fun e w' => ∃ t l' bad', e = .returned (.int .i64 (Pl.num t : Nat)) ∧ Pl.num t < 256 ^ n ∧ Rdr w' g l' bad' ∧ w.grownBy w' (some g) ∧ Pl.St o bad' (f t l') := by
  refine (num_any g n l bad w h hn).mono ?_
  rintro e w' ⟨rfl, h1, h2⟩
  exact ⟨_, _, _, rfl, Pl.num_take_lt l n, h1, h2, hs.take⟩
theorem take_st {o : Option Pl.Ev} {f : List UInt8 → List UInt8 → Option Pl.Ev} (g n : Nat) (l : List UInt8) (bad : Bool) (w : World) (h : Rdr w g l bad) (hn : n ≤ 9223372036854775807) (hs : Pl.St o bad (Pl.bt n l f)) :
    Calls Tryd.prog 83 #[.pointer (some ⟨g, 0, none⟩), .int .i64 n] w fun e w' => ∃ A t l' bad', e = .returned (.slice A t.length t.length) ∧ BytesAt w' A t ∧ (∀ p, A = some p → p.block < g) ∧ t.length ≤ n ∧ Rdr w' g l' bad' ∧ w.grownBy w' (some g) ∧ Pl.St o bad' (f t l') := by
  refine (take_any g n l bad w h hn).mono ?_
  rintro e w' ⟨A, rfl, h1, h2, h3, h4⟩
  exact ⟨A, _, _, _, rfl, h1, h2, List.length_take_le _ _, h3, h4, hs.take⟩
theorem hash_st {o : Option Pl.Ev} {f : List UInt8 → List UInt8 → Option Pl.Ev} (g : Nat) (l : List UInt8) (bad : Bool) (w : World) (h : Rdr w g l bad) (hs : Pl.St o bad (Pl.bt 4 l f)) :
    Calls Tryd.prog 85 #[.pointer (some ⟨g, 0, none⟩)] w fun e w' => ∃ x t l' bad', e = .returned (hashVal x) ∧ x < 4294967296 ∧ (t.length = 4 → x = Pl.num t) ∧ Rdr w' g l' bad' ∧ w.grownBy w' (some g) ∧ Pl.St o bad' (f t l') ∧ (bad' = false → bad = false) := by
  refine (hashRd_any g l bad w h).mono ?_
  rintro e w' ⟨rfl, h1, h2⟩
  exact ⟨_, _, _, _, rfl, Pl.hashOf_lt _, fun ht => Pl.hashOf_four _ ht, h1, h2, hs.take, fun h => by cases bad <;> simp_all⟩
theorem hashes_st {o : Option Pl.Ev} {f : List UInt8 → List UInt8 → Option Pl.Ev} (g : Nat) (l : List UInt8) (bad : Bool) (w : World) (h : Rdr w g l bad) (hs : Pl.St o bad (Pl.bt 1 l fun k l => Pl.bt (4 * Pl.num k) l f)) :
    Calls Tryd.prog 84 #[.pointer (some ⟨g, 0, none⟩)] w fun e w' => ∃ P cp ps t l' bad', e = .returned (.slice P ps.length cp) ∧ ps.length ≤ cp ∧ Src w' P (hcs ps) ∧ (∀ p, P = some p → w.heap.size ≤ p.block) ∧ (∀ x ∈ ps, x < 4294967296) ∧ Rdr w' g l' bad' ∧ w.grownBy w' (some g) ∧ Pl.St o bad' (f t l') ∧ (bad' = false → ps = Pl.groups t) ∧ (bad' = false → bad = false) := by
  refine (hashes_any g l bad w h).mono ?_
  rintro e w' ⟨v, ps, l', bad', rfl, h1, h2, h3, h4, h5⟩
  obtain ⟨P, cp, rfl, k1, k2, k3⟩ := own_src h1
  obtain ⟨t, k4, k5⟩ := h5.st hs
  exact ⟨P, cp, ps, t, l', bad', rfl, k1, k2, fun p hp => (h1.lt _ (k3 p hp)).1, h2, h3, h4, k4, k5, fun h => by
    rcases h5 with ⟨h6, _⟩ | ⟨_, h6, _⟩
    · rw [h] at h6; cases h6
    · exact h6⟩

/-- What Climb answers, in one. -/
theorem climb_either (l : List UInt8) (i m : Nat) (ps : List Nat) (hl : l.length ≤ 140737488351232) (hm : m ≤ 4096) (hx : ∀ x ∈ ps, x < 4294967296) : ∃ (r : Nat) (ok : Bool), r < 4294967296 ∧
    (∀ W A P cap cp, BytesAt W A l → Src W P (hcs ps) → ps.length ≤ cp → Calls Tryd.prog 86 #[.slice A l.length cap, .int .i64 i, .int .i64 m, .slice P ps.length cp] W fun e w' => e = .returned (.tuple #[hashVal r, if ok then .nilIface else .iface 25 (.int .i64 9)]) ∧ Below W.heap.size W w') ∧
    (ok = true → i < m ∧ ps.length = Pl.depth i m ∧ r = Pl.climb l i m ps) ∧ (ok = false → ¬ (i < m ∧ ps.length = Pl.depth i m)) := by
  by_cases h1 : i < m
  · by_cases h2 : ps.length = Pl.depth i m
    · exact ⟨_, true, Nat.lt_trans (Pl.climb_lt l i m ps) (by decide), fun W A P cap cp hb hs hc => climbE_good l A P cap cp i m ps W hl h1 hm h2 hx hb hs hc, fun _ => ⟨h1, h2, rfl⟩, fun h => by cases h⟩
    · exact ⟨0, false, by decide, fun W A P cap cp hb hs hc => climbE_len A P _ cap ps.length cp i m W h1 hm h2, fun h => (by cases h), fun _ h => h2 h.2⟩
  · exact ⟨0, false, by decide, fun W A P cap cp hb hs hc => climbE_num A P _ cap ps.length cp i m W (.inr (.inr (.inr (by omega)))), fun h => (by cases h), fun _ h => h1 h.1⟩
end Go.Proofs.YtljmklohgpaopaaDoor
