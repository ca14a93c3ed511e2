/- The walk of sums.Climb. -/
import Derived.Test.YtljmklohgpaopaaDoorTreeW
namespace Go.Proofs.YtljmklohgpaopaaDoor
open Go.RowKit

theorem results_hash2 {fn : Func} {t s : Tmp} {tmps : Array Value} {w : World} {g n : Nat} {v : Value} (h : fn.results = #[.cell t 73, .tmp s]) (ht : tmps.getD t undef = .pointer (some ⟨g, 0, none⟩)) (hv : tmps.getD s undef = v) (hB : Blk w g 73 (hc n)) :
    (results fn tmps).run Tryd.prog w = .ok (.tuple #[hashVal n, v]) w := by
  have hl := loadVar_hash w g n hB
  simp only [Array.getD_eq_getD_getElem?] at ht hv
  simp [results, h, ht, hv, hl, asAddr]

theorem climbE_num (A P : Option Addr) (n cap k cp : Nat) (i m : Int) (w : World) (h : m < 1 ∨ 4096 < m ∨ i < 0 ∨ m ≤ i) :
    Calls Tryd.prog 86 #[.slice A n cap, .int .i64 i, .int .i64 m, .slice P k cp] w fun e w' => e = .returned (.tuple #[hashVal 0, .iface 25 (.int .i64 9)]) ∧ Below w.heap.size w w' := by
  by_cases h1 : m < 1
  · go_enter Tryd.func86, Tryd.ntmps86
    go_wp2_with fail
    exact bodyPost_ret (v := .tuple #[hashVal 0, _]) (results_hash2 (n := 0) rfl rfl rfl (Blk.hash0 w)) rfl ⟨rfl, (Below.refl _ _).alloc (Nat.le_refl _) _⟩
  · by_cases h2 : 4096 < m
    · go_enter Tryd.func86, Tryd.ntmps86
      go_wp2_with fail
      exact bodyPost_ret (v := .tuple #[hashVal 0, _]) (results_hash2 (n := 0) rfl rfl rfl (Blk.hash0 w)) rfl ⟨rfl, (Below.refl _ _).alloc (Nat.le_refl _) _⟩
    · by_cases h3 : i < 0
      · go_enter Tryd.func86, Tryd.ntmps86
        go_wp2_with fail
        exact bodyPost_ret (v := .tuple #[hashVal 0, _]) (results_hash2 (n := 0) rfl rfl rfl (Blk.hash0 w)) rfl ⟨rfl, (Below.refl _ _).alloc (Nat.le_refl _) _⟩
      · have h4 : m ≤ i := by omega
        go_enter Tryd.func86, Tryd.ntmps86
        go_wp2_with fail
        exact bodyPost_ret (v := .tuple #[hashVal 0, _]) (results_hash2 (n := 0) rfl rfl rfl (Blk.hash0 w)) rfl ⟨rfl, (Below.refl _ _).alloc (Nat.le_refl _) _⟩

theorem climbE_len (A P : Option Addr) (n cap k cp i m : Nat) (w : World) (hi : i < m) (hm : m ≤ 4096) (h : k ≠ Pl.depth i m) :
    Calls Tryd.prog 86 #[.slice A n cap, .int .i64 i, .int .i64 m, .slice P k cp] w fun e w' => e = .returned (.tuple #[hashVal 0, .iface 25 (.int .i64 9)]) ∧ Below w.heap.size w w' := by
  have h1 : ¬ (m : Int) < 1 := by omega
  have h2 : ¬ 4096 < (m : Int) := by omega
  have h3 : ¬ (i : Int) < 0 := by omega
  have h4 : ¬ (m : Int) ≤ i := by omega
  obtain ⟨d, hd⟩ : ∃ d, Pl.depth i m = d := ⟨_, rfl⟩
  rw [hd] at h
  have HD := Lib.hid hd
  have q : ((k : Int) != d) = true := by simp; omega
  have q2 : ¬ (k : Int) = d := by omega
  clear hd
  go_enter Tryd.func86, Tryd.ntmps86
  go_wp2_with fail
  refine (depth_any i m _ hi (by omega)).mono ?_
  rintro e w1 ⟨rfl, rfl⟩
  rw [HD.out]
  go_wp2_with fail
  exact bodyPost_ret (v := .tuple #[hashVal 0, _]) (results_hash2 (n := 0) rfl rfl rfl (Blk.hash0 w)) rfl ⟨rfl, (Below.refl _ _).alloc (Nat.le_refl _) _⟩

theorem climbE_good (l : List UInt8) (A P : Option Addr) (cap cp i m : Nat) (ps : List Nat) (w : World) (hl : l.length ≤ 140737488351232) (hi : i < m) (hm : m ≤ 4096) (hp : ps.length = Pl.depth i m) (hx : ∀ x ∈ ps, x < 4294967296)
    (hb : BytesAt w A l) (hs : Src w P (hcs ps)) (hcp : ps.length ≤ cp) :
    Calls Tryd.prog 86 #[.slice A l.length cap, .int .i64 i, .int .i64 m, .slice P ps.length cp] w fun e w' => e = .returned (.tuple #[hashVal (Pl.climb l i m ps), .nilIface]) ∧ Below w.heap.size w w' := by
  have h1 : ¬ (m : Int) < 1 := by omega
  have h2 : ¬ 4096 < (m : Int) := by omega
  have h3 : ¬ (i : Int) < 0 := by omega
  have h4 : ¬ (m : Int) ≤ i := by omega
  have hb0 : Below w.heap.size w (w.alloc (.cells #[.int .u8 0, .int .u8 0, .int .u8 0, .int .u8 0] 73)) := (Below.refl _ _).alloc (Nat.le_refl _) _
  have HC := Lib.hid (climb_any l A cap hl _ i m ps P cp _ (Nat.le_refl _) hi hm hp hx (hb.keep hb0) (hs.below hb0) hcp)
  obtain ⟨c, hc'⟩ : ∃ c, Pl.climb l i m ps = c := ⟨_, rfl⟩
  rw [hc'] at HC ⊢
  have HP := Lib.hid hp
  have q : ((Pl.depth i m : Int) != Pl.depth i m) = false := by simp
  clear hc' hp hb hs hb0
  go_enter Tryd.func86, Tryd.ntmps86
  go_wp2_with fail
  refine (depth_any i m _ hi (by omega)).mono ?_
  rintro e w1 ⟨rfl, rfl⟩
  rw [← HP.out]
  go_wp2_with fail
  refine HC.out.mono ?_
  rintro e w1 ⟨rfl, hb1⟩
  unfold hashVal
  have hB := (Blk.hash0 w).below hb1 (by simp)
  obtain ⟨c0, c1, c2, c3, f0, f1, f2, f3⟩ := facts4 hB
  have hB' := Lib.hid hB
  have H' := Lib.hid (((Below.refl w.heap.size w).alloc (Nat.le_refl _) _).trans (hb1.mono (by simp)))
  clear hB hb1
  go_wp2_with fail
  refine bodyPost_ret (v := .tuple #[hashVal c, .nilIface]) (results_hash2 (n := c) rfl rfl rfl (hB'.out.set4 _ _ _ _)) rfl ⟨rfl, ?_⟩
  exact below_set4 H'.out (Nat.le_refl _) _ _ _ _
end Go.Proofs.YtljmklohgpaopaaDoor
