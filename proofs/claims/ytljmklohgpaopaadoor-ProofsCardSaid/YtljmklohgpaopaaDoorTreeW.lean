/- The walks of sums.climb and Climb. -/
import Derived.Test.YtljmklohgpaopaaDoorTreeQ
import Derived.Test.YtljmklohgpaopaaDoorTreeK
namespace Go.Proofs.YtljmklohgpaopaaDoor
open Go.RowKit

theorem climb_single (l : List UInt8) (A P : Option Addr) (cap n cp : Nat) (i : Int) (w : World) (hb : BytesAt w A l) (hl : l.length ≤ 140737488351232) :
    Calls Tryd.prog 107 #[.slice A l.length cap, .int .i64 i, .int .i64 1, .slice P n cp] w fun e w' => e = .returned (hashVal (Pl.sumN (0 :: l))) ∧ Below w.heap.size w w' := by
  have hbs1 := hb.keep (w' := w.alloc (.cells #[.int .u8 0, .int .u8 0, .int .u8 0, .int .u8 0] 73)) ((Below.refl _ _).alloc (Nat.le_refl _) _)
  go_enter Tryd.func107, Tryd.ntmps107
  go_wp2_with fail
  refine (leaf_any A cap l _ hbs1 hl).mono ?_
  rintro e w1 ⟨A2, cap2, rfl, hb2, hbel1⟩
  go_wp2_with fail
  refine (sum_any A2 cap2 (0 :: l) _ hb2 (by simp; omega)).mono ?_
  rintro e w2 ⟨rfl, hbel2⟩
  unfold hashVal
  have hB := (((Blk.hash0 w).below hbel1 (by simp)).below hbel2 (by have := hbel1.size; simp at this; omega))
  have H : Below w.heap.size w w2 := (((Below.refl _ _).alloc (Nat.le_refl _) _).trans (hbel1.mono (by simp))).trans (hbel2.mono (by have := hbel1.size; simp at this; omega))
  have H' := Lib.hid H
  obtain ⟨c0, c1, c2, c3, f0, f1, f2, f3⟩ := facts4 hB
  have hB' := Lib.hid hB
  clear hB hbel1 hbel2 H hbs1 hb hb2
  go_wp2_with fail
  refine bodyPost_ret (v := hashVal (Pl.sumN (0 :: l))) (results_hash rfl rfl (hB'.out.set4 _ _ _ _)) rfl ⟨rfl, ?_⟩
  exact below_set4 H'.out (Nat.le_refl _) _ _ _ _

theorem hcs_snoc_at (qs : List Nat) (x j : Nat) (hj : j < 4) : (hcs (qs ++ [x]))[qs.length * 4 + j]? = (hc x)[j]? := by
  rw [hcs_append, hcs_one, List.getElem?_append_right (by rw [hcs_len]; omega), hcs_len]
  congr 1
  omega

/-- The four cells of the hash that stands behind the others. -/
theorem Src.last4 {w : World} {b off n : Nat} {qs : List Nat} {x : Nat} (h : Src w (some ⟨b, off, none⟩) (hcs (qs ++ [x]))) (hn : qs.length = n) :
    w.cell? ⟨b, off + n * 4, none⟩ = some (.int .u8 ((x : Int) / 16777216)) ∧ w.cell? ⟨b, off + n * 4 + 1, none⟩ = some (.int .u8 ((x : Int) / 65536 % 256)) ∧
    w.cell? ⟨b, off + n * 4 + 2, none⟩ = some (.int .u8 ((x : Int) / 256 % 256)) ∧ w.cell? ⟨b, off + n * 4 + 3, none⟩ = some (.int .u8 ((x : Int) % 256)) := by
  subst hn
  have h' := fun j hj => h.cell (qs.length * 4 + j) _ (by rw [hcs_snoc_at qs x j hj, List.getElem?_eq_getElem (by simp [hc]; omega)])
  exact ⟨h' 0 (by omega), h' 1 (by omega), h' 2 (by omega), h' 3 (by omega)⟩

theorem node_sum (a b : Nat) (ha : a < 4294967296) (hb : b < 4294967296) : ∃ r, (∀ w, Calls Tryd.prog 114 #[hashVal a, hashVal b] w fun e w' => ∃ A' cap', e = .returned (.slice A' 9 cap') ∧ BytesAt w' A' (1 :: (Pl.be 4 a ++ Pl.be 4 b)) ∧ Below w.heap.size w w') ∧
    Pl.sumN (1 :: (Pl.be 4 a ++ Pl.be 4 b)) = r ∧
    ∀ A cap w, BytesAt w A (1 :: (Pl.be 4 a ++ Pl.be 4 b)) → Calls Tryd.prog 105 #[.slice A 9 cap] w fun e w' => e = .returned (hashVal r) ∧ Below w.heap.size w w' := by
  refine ⟨_, fun w => node_any a b w ha hb, rfl, fun A cap w h => ?_⟩
  have := sum_any A cap (1 :: (Pl.be 4 a ++ Pl.be 4 b)) w h (by simp [Pl.be_length])
  rwa [show (1 :: (Pl.be 4 a ++ Pl.be 4 b)).length = 9 by simp [Pl.be_length]] at this

theorem join3 (w w1 w2 w3 : World) (o : Obj) (h1 : Below (w.alloc o).heap.size (w.alloc o) w1) (h2 : Below w1.heap.size w1 w2) (h3 : Below w2.heap.size w2 w3) :
    Below (w.alloc o).heap.size (w.alloc o) w3 ∧ Below w.heap.size w w3 := by
  have h12 := h1.trans (h2.mono h1.size)
  have h13 := h12.trans (h3.mono h12.size)
  exact ⟨h13, ((Below.refl _ _).alloc (Nat.le_refl _) _).trans (h13.mono (by simp))⟩

set_option maxHeartbeats 4000000 in
set_option maxRecDepth 100000 in
theorem climb_step (l : List UInt8) (A : Option Addr) (b off cap cp i m : Nat) (qs : List Nat) (x : Nat) (w : World) (hb : BytesAt w A l) (hl : l.length ≤ 140737488351232) (hi : i < m) (hm : 2 ≤ m) (hm2 : m ≤ 4096)
    (hp : (qs ++ [x]).length = Pl.depth i m) (hx : x < 4294967296) (hs : Src w (some ⟨b, off, none⟩) (hcs (qs ++ [x]))) (hcp : (qs ++ [x]).length ≤ cp)
    (ih : ∀ (i' m' : Nat) (w : World), m' < m → i' < m' → qs.length = Pl.depth i' m' → BytesAt w A l → Src w (some ⟨b, off, none⟩) (hcs qs) →
      Calls Tryd.prog 107 #[.slice A l.length cap, .int .i64 i', .int .i64 m', .slice (some ⟨b, off, none⟩) qs.length cp] w fun e w' => e = .returned (hashVal (Pl.climb l i' m' qs)) ∧ Below w.heap.size w w') :
    Calls Tryd.prog 107 #[.slice A l.length cap, .int .i64 i, .int .i64 m, .slice (some ⟨b, off, none⟩) (qs ++ [x]).length cp] w fun e w' => e = .returned (hashVal (Pl.climb l i m (qs ++ [x]))) ∧ Below w.heap.size w w' := by
  have hqq := Pl.depth_lt i m hi
  rw [← hp] at hqq
  have hlen : (qs ++ [x]).length = qs.length + 1 := by simp
  rw [hlen] at hqq hcp ⊢
  obtain ⟨k, hk⟩ : ∃ k, Pl.half m = k := ⟨_, rfl⟩
  have hk1 := Pl.half_pos m
  have hk2 := Pl.half_lt hm
  rw [hk] at hk1 hk2
  have HK := Lib.hid hk
  have HW := Lib.hid hs
  have hsq := hs.take (qs.length * 4)
  rw [hcs_append, List.take_left' (hcs_len qs)] at hsq
  have HB := Lib.hid (hb.keep (w' := w.alloc (.cells #[.int .u8 0, .int .u8 0, .int .u8 0, .int .u8 0] 73)) ((Below.refl _ _).alloc (Nat.le_refl _) _))
  have HS := Lib.hid (hsq.below (w' := w.alloc (.cells #[.int .u8 0, .int .u8 0, .int .u8 0, .int .u8 0] 73)) ((Below.refl _ _).alloc (Nat.le_refl _) _))
  have HL := Lib.hid (hs.below (w' := w.alloc (.cells #[.int .u8 0, .int .u8 0, .int .u8 0, .int .u8 0] 73)) ((Below.refl _ _).alloc (Nat.le_refl _) _))
  have hB0 := Lib.hid (Blk.hash0 w)
  obtain ⟨n, hn⟩ : ∃ n, qs.length = n := ⟨_, rfl⟩
  have q1 : ((m : Int) == 1) = false := beq_eq_false_iff_ne.2 (by omega)
  have HN := Lib.hid hn
  rw [hn] at hqq hcp ⊢
  have hx0 : (0 : Int) ≤ (n : Int) := by omega
  have hx1 : (n : Int) ≤ (cp : Int) := by omega
  have hx2 : (n : Int) ≤ ((n + 1 : Nat) : Int) := by omega
  have hx3 : (n : Int) < (n : Int) + 1 := by omega
  have hx4 : n < n + 1 := by omega
  have hx5 : (n : Int) ≤ (n : Int) + 1 := by omega
  have w0 : IntKind.i64.wrap (((n + 1 : Nat) : Int) - 1) = (n : Int) := by rw [IntWalk.i64_in _ (by omega)]; omega
  clear hk hs hsq hb hn
  by_cases hik : i < k
  · have hC : Pl.climb l i m (qs ++ [x]) = Pl.sumN (1 :: (Pl.be 4 (Pl.climb l i k qs) ++ Pl.be 4 x)) := by
      rw [Pl.climb_lo _ _ _ _ hm (by rw [HK.out]; exact hik), HK.out]; simp
    rw [hC]
    have hclt := Pl.climb_lt l i k qs
    obtain ⟨c, hc'⟩ : ∃ c, Pl.climb l i k qs = c := ⟨_, rfl⟩
    have hI : ∀ W, BytesAt W A l → Src W (some ⟨b, off, none⟩) (hcs qs) → Calls Tryd.prog 107 #[.slice A l.length cap, .int .i64 i, .int .i64 k, .slice (some ⟨b, off, none⟩) n cp] W fun e w' => e = .returned (hashVal c) ∧ Below W.heap.size W w' := by
      intro W h1 h2
      rw [← hc', ← HN.out]
      exact ih i k W hk2 hik (by
        rw [Pl.depth_lo _ _ hm (by rw [HK.out]; exact hik), HK.out] at hp
        simpa using hp) h1 h2
    have HI := Lib.hid hI
    rw [hc'] at hclt ⊢
    obtain ⟨r, HNode, HSum⟩ := node_sum c x (by omega) hx
    rw [HSum.1]
    have HSum2 := Lib.hid HSum.2
    clear hI hc' hC ih hp HSum hx hclt
    go_enter Tryd.func107, Tryd.ntmps107
    go_wp2_with fail
    refine (half_any m _ (by omega) (by omega)).mono ?_
    rintro e w' ⟨rfl, rfl⟩
    rw [HK.out]
    go_wp2_with fail
    have s0 := Lib.hid (HL.out.last4 HN.out)
    go_region_held3 (fun W : World => W.cell? ⟨b, off + n * 4, none⟩ = some (.int .u8 ((x : Int) / 16777216)) ∧ W.cell? ⟨b, off + n * 4 + 1, none⟩ = some (.int .u8 ((x : Int) / 65536 % 256)) ∧
        W.cell? ⟨b, off + n * 4 + 2, none⟩ = some (.int .u8 ((x : Int) / 256 % 256)) ∧ W.cell? ⟨b, off + n * 4 + 3, none⟩ = some (.int .u8 ((x : Int) % 256)))
      (first | exact s0.out | exact s1.out | exact s2.out | exact s3.out | exact s4 _ _ _ _ | fail) (first
      | (go_at_call 107; (with_reducible refine (HI.out _ ?_ ?_).mono ?_); exact HB.out; exact HS.out; rintro e w1 ⟨rfl, hb1'⟩; have hb1 := undrew hb1'; have s1 := Lib.hid ((HL.out.below hb1).last4 HN.out))
      | (go_at_call 114; refine (HNode _).mono ?_; rintro e w2 ⟨A2, cap2, rfl, hb2, hbel2⟩; have s2 := Lib.hid (((HL.out.below hb1).below hbel2).last4 HN.out))
      | (go_at_call 105; refine (HSum2.out _ _ _ hb2).mono ?_; rintro e w3 ⟨rfl, hbel3⟩
         have hall := join3 w w1 w2 w3 _ hb1 hbel2 hbel3
         have s3 := Lib.hid ((((HL.out.below hb1).below hbel2).below hbel3).last4 HN.out)
         have s4 := fun x0 x1 x2 x3 => (HW.out.below (below_set4 hall.2 (Nat.le_refl _) x0 x1 x2 x3)).last4 HN.out
         have hB4 := hB0.out.below hall.1 (by simp)
         obtain ⟨c0, c1, c2, c3, f0, f1, f2, f3⟩ := facts4 hB4
         have hB' := Lib.hid hB4
         have hall' := Lib.hid hall.2
         clear hB4 hall hb1 hb1' hbel2 hbel3 hb2
         unfold hashVal)
      | fail)
    go_wp2
    refine bodyPost_ret (v := hashVal r) (results_hash rfl rfl (hB'.out.set4 _ _ _ _)) rfl ⟨rfl, ?_⟩
    exact below_set4 hall'.out (Nat.le_refl _) _ _ _ _
  · have hC : Pl.climb l i m (qs ++ [x]) = Pl.sumN (1 :: (Pl.be 4 x ++ Pl.be 4 (Pl.climb l (i - k) (m - k) qs))) := by
      rw [Pl.climb_hi _ _ _ _ hm (by rw [HK.out]; exact hik), HK.out]; simp
    rw [hC]
    have hclt := Pl.climb_lt l (i - k) (m - k) qs
    obtain ⟨c, hc'⟩ : ∃ c, Pl.climb l (i - k) (m - k) qs = c := ⟨_, rfl⟩
    have hI : ∀ W, BytesAt W A l → Src W (some ⟨b, off, none⟩) (hcs qs) → Calls Tryd.prog 107 #[.slice A l.length cap, .int .i64 ((i : Int) - k), .int .i64 ((m : Int) - k), .slice (some ⟨b, off, none⟩) n cp] W fun e w' => e = .returned (hashVal c) ∧ Below W.heap.size W w' := by
      intro W h1 h2
      have := ih (i - k) (m - k) W (by omega) (by omega) (by
        rw [Pl.depth_hi _ _ hm (by rw [HK.out]; exact hik), HK.out] at hp
        simpa using hp) h1 h2
      rwa [hc', HN.out, Int.ofNat_sub (by omega), Int.ofNat_sub (by omega)] at this
    have w1' : IntKind.i64.wrap ((i : Int) - k) = (i : Int) - k := IntWalk.i64_in _ (by omega)
    have w2' : IntKind.i64.wrap ((m : Int) - k) = (m : Int) - k := IntWalk.i64_in _ (by omega)
    have HI := Lib.hid hI
    rw [hc'] at hclt ⊢
    obtain ⟨r, HNode, HSum⟩ := node_sum x c hx (by omega)
    rw [HSum.1]
    have HSum2 := Lib.hid HSum.2
    clear hI hc' hC ih hp HSum hx hclt
    go_enter Tryd.func107, Tryd.ntmps107
    go_wp2_with fail
    refine (half_any m _ (by omega) (by omega)).mono ?_
    rintro e w' ⟨rfl, rfl⟩
    rw [HK.out]
    go_wp2_with fail
    have s0 := Lib.hid (HL.out.last4 HN.out)
    go_region_held3 (fun W : World => W.cell? ⟨b, off + n * 4, none⟩ = some (.int .u8 ((x : Int) / 16777216)) ∧ W.cell? ⟨b, off + n * 4 + 1, none⟩ = some (.int .u8 ((x : Int) / 65536 % 256)) ∧
        W.cell? ⟨b, off + n * 4 + 2, none⟩ = some (.int .u8 ((x : Int) / 256 % 256)) ∧ W.cell? ⟨b, off + n * 4 + 3, none⟩ = some (.int .u8 ((x : Int) % 256)))
      (first | exact s0.out | exact s1.out | exact s2.out | exact s3.out | exact s4 _ _ _ _ | fail) (first
      | (go_at_call 107; (with_reducible refine (HI.out _ ?_ ?_).mono ?_); exact HB.out; exact HS.out; rintro e w1 ⟨rfl, hb1'⟩; have hb1 := undrew hb1'; have s1 := Lib.hid ((HL.out.below hb1).last4 HN.out))
      | (go_at_call 114; refine (HNode _).mono ?_; rintro e w2 ⟨A2, cap2, rfl, hb2, hbel2⟩; have s2 := Lib.hid (((HL.out.below hb1).below hbel2).last4 HN.out))
      | (go_at_call 105; refine (HSum2.out _ _ _ hb2).mono ?_; rintro e w3 ⟨rfl, hbel3⟩
         have hall := join3 w w1 w2 w3 _ hb1 hbel2 hbel3
         have s3 := Lib.hid ((((HL.out.below hb1).below hbel2).below hbel3).last4 HN.out)
         have s4 := fun x0 x1 x2 x3 => (HW.out.below (below_set4 hall.2 (Nat.le_refl _) x0 x1 x2 x3)).last4 HN.out
         have hB4 := hB0.out.below hall.1 (by simp)
         obtain ⟨c0, c1, c2, c3, f0, f1, f2, f3⟩ := facts4 hB4
         have hB' := Lib.hid hB4
         have hall' := Lib.hid hall.2
         clear hB4 hall hb1 hb1' hbel2 hbel3 hb2
         unfold hashVal)
      | fail)
    go_wp2
    refine bodyPost_ret (v := hashVal r) (results_hash rfl rfl (hB'.out.set4 _ _ _ _)) rfl ⟨rfl, ?_⟩
    exact below_set4 hall'.out (Nat.le_refl _) _ _ _ _

theorem climb_any (l : List UInt8) (A : Option Addr) (cap : Nat) (hl : l.length ≤ 140737488351232) (N : Nat) : ∀ (i m : Nat) (ps : List Nat) (P : Option Addr) (cp : Nat) (w : World), m ≤ N → i < m → m ≤ 4096 → ps.length = Pl.depth i m → (∀ x ∈ ps, x < 4294967296) → BytesAt w A l → Src w P (hcs ps) → ps.length ≤ cp →
    Calls Tryd.prog 107 #[.slice A l.length cap, .int .i64 i, .int .i64 m, .slice P ps.length cp] w fun e w' => e = .returned (hashVal (Pl.climb l i m ps)) ∧ Below w.heap.size w w' := by
  induction N with
  | zero => intro i m ps P cp w hn hi; omega
  | succ N ih =>
    intro i m ps P cp w hn hi hm hp hx hb hs hcp
    by_cases h1 : m = 1
    · subst h1
      rw [Pl.climb_one _ _ _ _ (Nat.le_refl _)]
      exact climb_single l A P cap _ cp i w hb hl
    · have h0 : 0 < ps.length := by
        rw [hp]
        by_cases hik : i < Pl.half m
        · rw [Pl.depth_lo _ _ (by omega) hik]; omega
        · rw [Pl.depth_hi _ _ (by omega) hik]; omega
      obtain ⟨qs, x, rfl⟩ := split_last ps h0
      obtain ⟨b, off, rfl⟩ := hs.addr (by rw [hcs_len]; omega)
      exact climb_step l A b off cap cp i m qs x w hb hl hi (by omega) hm hp (hx x (by simp)) hs hcp (fun i' m' w h2 h3 h4 h5 h6 => ih i' m' qs _ cp w (by omega) h3 (by omega) h4 (fun y hy => hx y (by simp [hy])) h5 h6 (by simp at hcp; omega))
end Go.Proofs.YtljmklohgpaopaaDoor
