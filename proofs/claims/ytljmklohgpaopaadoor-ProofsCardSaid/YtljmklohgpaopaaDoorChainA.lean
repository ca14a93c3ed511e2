/- The walks of octets.Put, bytes.Equal, chain.Hash, chain.header, the harness's four. -/
import Derived.Test.YtljmklohgpaopaaDoorTreeC
import Derived.Test.YtljmklohgpaopaaDoorPlainChain
import Derived.Test.YtljmklohgpaopaaDoorOwnFull
namespace Go.Proofs.YtljmklohgpaopaaDoor
open Go.RowKit

theorem bv_snoc (l : List UInt8) (c : UInt8) : bv (l ++ [c]) = bv l ++ [.int .u8 (c.toNat : Int)] := by simp [bv]

set_option maxHeartbeats 1000000 in
set_option maxRecDepth 100000 in
theorem put_any (v : Value) (n : Nat) (l : List UInt8) (x s base : Nat) (w : World) (hown : Ready w base 5 1 v n (bv l)) (hbase : base ≤ w.heap.size) (hx : x < 18446744073709551616) (hs : s ≤ 8) (hs0 : 0 < s) (hn : n ≤ 70368744177664) :
    Calls Tryd.prog 94 #[v, .int .u64 x, .int .i64 s] w fun e w' => ∃ v', e = .returned v' ∧ w'.ownsRow base 5 1 v' (n + s) (bv (l ++ Pl.be s x)) ∧ Below base w w' ∧
      (∀ k, k < w.heap.size → v.ownBlock ≠ some k → w'.heap[k]? = w.heap[k]? ∧ v'.ownBlock ≠ some k) := by
  obtain ⟨i0, hi, hz0, hz1, hz2⟩ := info_parts Tryd.infoByte
  go_enter Tryd.func94, Tryd.ntmps94
  go_wp2_with fail
  go_loopw [0, 7] (fun u i wr => ∃ j : Nat, j ≤ s ∧ i = .int .i64 ((s : Int) - 1 - j) ∧ Hid (Ready wr base 5 1 u (n + j) (bv (l ++ (Pl.be s x).take j))) ∧ Hid (0 < j → wr.ownsRow base 5 1 u (n + j) (bv (l ++ (Pl.be s x).take j))) ∧ Below base w wr ∧
      Hid (∀ k, k < w.heap.size → v.ownBlock ≠ some k → wr.heap[k]? = w.heap[k]? ∧ u.ownBlock ≠ some k)) (fun _ i _ => (intOf i + 1).toNat)
  case atStart => exact ⟨0, by omega, by simp, (by simpa using hown : Ready w base 5 1 v (n + 0) (bv (l ++ (Pl.be s x).take 0))), fun h => absurd h (by omega), Below.refl _ _, fun k hk hne => ⟨rfl, hne⟩⟩
  case round =>
    obtain ⟨j, hj, rfl, HO, HO1, hbel, HF⟩ := hrel
    by_cases hjs : j < s
    · obtain ⟨q, hq⟩ : ∃ q : Nat, (s : Int) - 1 - j = (q : Int) := ⟨s - 1 - j, by omega⟩
      have hq8 : q ≤ 7 := by omega
      obtain ⟨y, hy⟩ : ∃ y : Int, (x : Int) / 2 ^ (8 * q) % 256 = y := ⟨_, rfl⟩
      have hyv : y = ((UInt8.ofNat (x / 256 ^ q)).toNat : Int) := by
        rw [← hy, show (256 : Nat) = 2 ^ 8 from rfl, ← Nat.pow_mul]
        simp
      have htk : Hid (bv (l ++ (Pl.be s x).take (j + 1)) = bv (l ++ (Pl.be s x).take j) ++ [.int .u8 y]) := by
        rw [Hid, Pl.be_take_succ s x j hjs, ← List.append_assoc, bv_snoc, hyv, show s - 1 - j = q by omega]
      rw [hq]
      have HQ := Lib.hid hq
      have hown2 := Lib.hid (HO.out.alloc (.cells #[.int .u8 y] 5))
      have hsrc2 := Lib.hid (Src.of_blk (Blk.new wr 5 [.int .u8 y]))
      have hbel2 := hbel.alloc (Nat.le_trans hbase hbel.size) (.cells #[.int .u8 y] 5)
      have hbase2 : base ≤ (wr.alloc (.cells #[.int .u8 y] 5)).heap.size := Nat.le_trans (Nat.le_trans hbase hbel.size) (by simp)
      have hroom := Lib.hid (byte_room (n := n + j) (m := 1) (by omega))
      have h63 := Lib.hid (show n + j + 1 ≤ maxLen by simp only [maxLen]; omega)
      have hone : Hid (∀ u ∈ [Value.int .u8 y], u.oneCell' = true) := by
        intro u hu
        simp at hu
        subst hu
        rfl
      have hszr := hbel.size
      clear hyv hq hbel
      go_wp2_with (at_builtin
                   refine wpList_append_ready _ rfl (.tmp 14) (.tmp 20) 23 rfl base 5 i0 (.int .u8 0) 1 1 Tryd.underlying23 hi hz0 hz1 hz2 rfl (by decide) u0 (n + j) (bv (l ++ (Pl.be s x).take j)) rfl hown2.out (some ⟨wr.heap.size, 0, none⟩) 1 1 [.int .u8 y] rfl rfl hsrc2.out hone.out (by decide) h63.out hroom.out hbase2 ?_
                   intro v3 w3 hown3 hbel3 hkeep3 hat3)
      have hF := HF.out
      have hown4 : w3.ownsRow base 5 1 v3 (n + (j + 1)) (bv (l ++ (Pl.be s x).take (j + 1))) := by rw [htk.out]; exact hown3
      refine ⟨⟨j + 1, by omega, ?_, .inl hown4, fun _ => hown4, hbel2.trans hbel3, ?_⟩, ?_⟩
      · have := HQ.out
        congr 1
        omega
      · intro k hk hne
        obtain ⟨h1, h2⟩ := hF k hk hne
        refine ⟨((hkeep3 k (by simp; omega) h2).trans (Below.heap_alloc wr _ k (by omega))).trans h1, ?_⟩
        rcases hat3 with e | e
        · rw [e]; exact h2
        · rw [e]; simp; omega
      · simp [intOf]
    · obtain rfl : j = s := by omega
      have hneg : ¬ (0 : Int) ≤ (j : Int) - 1 - j := by omega
      have HF2 := HF.out
      have ho := HO1.out hs0
      rw [List.take_of_length_le (by rw [Pl.be_length]; exact Nat.le_refl _)] at ho
      have HO2 := Lib.hid ho
      clear ho HO HO1
      go_wp2_with fail
      go_ret
      exact ⟨_, rfl, HO2.out, hbel, HF2⟩

theorem hc_be (n : Nat) (hn : n < 4294967296) : hc n = bv (Pl.be 4 n) := (hc_bytes n hn).symm
theorem src_heap {w w' : World} {g : Nat} {t : TypeId} {cs : List Value} (h : Blk w g t cs) (he : w'.heap[g]? = w.heap[g]?) : Src w' (some ⟨g, 0, none⟩) cs := Src.of_blk (he.trans h)

set_option maxHeartbeats 1000000 in
set_option maxRecDepth 100000 in
theorem header_any (b h r : Nat) (w : World) (hb : b < 4294967296) (hh : h < 4294967296) (hr : r < 4294967296) :
    Calls Tryd.prog 79 #[.int .i64 b, hashVal h, hashVal r] w fun e w' => ∃ A' cap', e = .returned (.slice A' 13 cap') ∧ BytesAt w' A' (Pl.header b h r) ∧ Below w.heap.size w w' := by
  obtain ⟨i0, hi, hz0, hz1, hz2⟩ := info_parts Tryd.infoByte
  obtain ⟨w0, hw0⟩ : ∃ w0, (w.alloc (.cells (hc h).toArray 73)).alloc (.cells (hc r).toArray 73) = w0 := ⟨_, rfl⟩
  have hsz0 : w0.heap.size = w.heap.size + 1 + 1 := by rw [← hw0]; simp
  have B1 : Blk w0 w.heap.size 73 (hc h) := by rw [← hw0]; exact (Blk.new _ _ _).alloc _
  have B2 : Blk w0 (w.heap.size + 1) 73 (hc r) := by rw [← hw0]; exact Blk.newAt _ _ _ _ (by simp)
  have hm := run_mark (P := Tryd.prog) w0 23 5 #[.int .u8 66] 1 Tryd.underlying23 Tryd.underlying5 rfl
  have hbel0 : Below w.heap.size w w0 := by rw [← hw0]; exact ((Below.refl _ _).alloc (Nat.le_refl _) _).alloc (by simp) _
  have hbel1 := hbel0.alloc hbel0.size (.cells #[.int .u8 66] 5 (1, 2))
  have hrd : Ready (w0.alloc (.cells #[.int .u8 66] 5 (1, 2))) w.heap.size 5 1 (.slice (some ⟨w.heap.size + 1 + 1, 0, none⟩) 1 1) 1 (bv [66]) := by
    refine .inr ⟨rfl, _, _, rfl, .inr ⟨_, _, rfl, fun j u hu => ?_⟩⟩
    rw [← hsz0, Nat.zero_add, cell_of_row _ _ _ _ _ _ (heap_alloc_new w0 _)]
    simpa [bv] using hu
  have HB1 := Lib.hid ((Below.heap_alloc w0 (.cells #[.int .u8 66] 5 (1, 2)) _ B1.lt).trans B1)
  have HB2 := Lib.hid ((Below.heap_alloc w0 (.cells #[.int .u8 66] 5 (1, 2)) _ B2.lt).trans B2)
  have HRD := Lib.hid hrd
  have HH := Lib.hid (hc_be h hh)
  have HR := Lib.hid (hc_be r hr)
  rw [hsz0] at hm
  unfold hc at hw0
  unfold hashVal
  clear B1 B2 hrd hbel0
  go_enter Tryd.func79, Tryd.ntmps79
  go_wp2_with fail
  refine (put_any (.slice (some ⟨w.heap.size + 1 + 1, 0, none⟩) 1 1) 1 [66] b 4 w.heap.size _ HRD.out hbel1.size (by omega) (by omega) (by omega) (by omega)).mono ?_
  rintro e w1 ⟨v1, rfl, hown1, hb1, hkeep⟩
  obtain ⟨k1, n1⟩ := hkeep w.heap.size (by simp; omega) (fun e => by have := Option.some.inj (show some (w.heap.size + 1 + 1) = some w.heap.size from e); omega)
  obtain ⟨k2, n2⟩ := hkeep (w.heap.size + 1) (by simp; omega) (fun e => by have := Option.some.inj (show some (w.heap.size + 1 + 1) = some (w.heap.size + 1) from e); omega)
  have hB1 : Blk w1 w.heap.size 73 (hc h) := k1.trans HB1.out
  have hB2 : Blk w1 (w.heap.size + 1) 73 (hc r) := k2.trans HB2.out
  have S1 := Lib.hid (Src.of_blk hB1)
  have hbel2 := hbel1.trans (hb1.mono (Nat.le_refl _))
  have HOWN := Lib.hid hown1
  have hsz1 := hbel2.size
  have hlt2 := hB2.lt
  have HB22 := Lib.hid hB2
  clear hkeep k1 k2 hB1 hB2 hown1 hb1 hm hw0 hsz0
  go_wp2_with fail
  go_region_held3 (fun _ => True) (trivial) (first
    | (refine step_append_src _ rfl (.tmp 13) (.tmp 14) 23 rfl w.heap.size 5 i0 (.int .u8 0) 1 1 Tryd.underlying23 hi hz0 hz1 hz2 rfl (by decide) v1 5 _ rfl HOWN.out (some ⟨w.heap.size, 0, none⟩) 4 4 (hc h) rfl rfl S1.out (hc_one h) ?_ (byte_room ?_) hsz1 ?_
       · simp only [maxLen]; omega
       · omega
       intro v2 w2 hown2 hg2 hat2
       have hbel3 := hbel2.drew.grown hg2 hsz1 (fun g hg => (HOWN.out.lt g hg).1)
       have hsz2 := hbel3.size
       have S2 := Lib.hid (Src.of_blk (HB22.out.drew.grown hg2 (fun e => n2 e.symm))))
    | (refine step_append_src _ rfl (.tmp 15) (.tmp 16) 23 rfl w.heap.size 5 i0 (.int .u8 0) 1 1 Tryd.underlying23 hi hz0 hz1 hz2 rfl (by decide) v2 9 _ rfl hown2 (some ⟨w.heap.size + 1, 0, none⟩) 4 4 (hc r) rfl rfl S2.out (hc_one r) ?_ (byte_room ?_) hsz2 ?_
       · simp only [maxLen]; omega
       · omega
       intro v3 w3 hown3 hg3 hat3
       have hbel4 := hbel3.grown hg3 hsz2 (fun g hg => (hown2.lt g hg).1))
    | fail)
  go_wp2_with fail
  obtain ⟨A1, cap1, rfl, hcap, hsrc, _⟩ := own_src hown3
  go_ret
  refine ⟨A1, cap1, rfl, Src.bytes ?_, hbel4⟩
  have : bv (Pl.header b h r) = bv ([66] ++ Pl.be 4 b) ++ hc h ++ hc r := by
    rw [HH.out, HR.out, ← bv_append, ← bv_append]
    simp [Pl.header]
  rw [this]
  exact hsrc
end Go.Proofs.YtljmklohgpaopaaDoor
