/- The walks of the chain's hashes and entry. -/
import Derived.Test.YtljmklohgpaopaaDoorReadB
import Derived.Test.YtljmklohgpaopaaDoorTreeQ
import Derived.Test.YtljmklohgpaopaaDoorChainA
namespace Go.Proofs.YtljmklohgpaopaaDoor
open Go.RowKit

/-- What hashes makes of a reader. -/
def HashesTo (l : List UInt8) (bad : Bool) (ps : List Nat) (l' : List UInt8) (bad' : Bool) : Prop :=
  (bad' = true ∧ (bad = true ∨ l.length < 1 ∨ (l.drop 1).length < 4 * Pl.num (l.take 1))) ∨
  (bad' = false ∧ bad = false ∧ 1 ≤ l.length ∧ 4 * Pl.num (l.take 1) ≤ (l.drop 1).length ∧ ps = Pl.groups ((l.drop 1).take (4 * Pl.num (l.take 1))) ∧ l' = (l.drop 1).drop (4 * Pl.num (l.take 1)))
theorem HashesTo.st {l l' : List UInt8} {bad bad' : Bool} {ps : List Nat} (h : HashesTo l bad ps l' bad') {o : Option Pl.Ev} {f : List UInt8 → List UInt8 → Option Pl.Ev}
    (hs : Pl.St o bad (Pl.bt 1 l fun k l => Pl.bt (4 * Pl.num k) l f)) : ∃ p, Pl.St o bad' (f p l') ∧ (bad' = false → ps = Pl.groups p) := by
  rcases h with ⟨rfl, h⟩ | ⟨rfl, rfl, h1, h2, rfl, rfl⟩
  · refine ⟨[], ?_, fun h => by cases h⟩
    rcases h with rfl | h | h
    · exact hs.bad _
    · exact hs.short h _
    · exact hs.take.short h _
  · refine ⟨(l.drop 1).take (4 * Pl.num (l.take 1)), ?_, fun _ => rfl⟩
    have := hs.take.take
    rwa [decide_eq_false (by omega), decide_eq_false (by omega), Bool.or_false, Bool.or_false] at this
/-- Where the loop stands behind so many rounds. -/
def HashesAt (l1 : List UInt8) (bad1 : Bool) (r : Nat) (ps : List Nat) (lr : List UInt8) (br : Bool) : Prop :=
  (br = true ∧ (bad1 = true ∨ l1.length < 4 * r)) ∨ (br = false ∧ bad1 = false ∧ 4 * r ≤ l1.length ∧ ps = Pl.groups (l1.take (4 * r)) ∧ lr = l1.drop (4 * r))
theorem HashesAt.start (l1 : List UInt8) (bad1 : Bool) : HashesAt l1 bad1 0 [] l1 bad1 := by
  cases bad1
  · exact .inr ⟨rfl, rfl, by omega, by simp [Pl.groups], by simp⟩
  · exact .inl ⟨rfl, .inl rfl⟩
theorem groups_snoc (l : List UInt8) (r : Nat) (h : 4 * (r + 1) ≤ l.length) : Pl.groups (l.take (4 * (r + 1))) = Pl.groups (l.take (4 * r)) ++ [Pl.hashOf ((l.drop (4 * r)).take 4)] := by
  induction r generalizing l with
  | zero =>
    rw [Nat.zero_add, Nat.mul_one, Pl.groups_long _ (by rw [List.length_take]; omega), Pl.groups_short _ (by rw [List.length_drop, List.length_take]; omega)]
    rfl
  | succ r ih =>
    have e1 : (l.take (4 * (r + 1 + 1))).drop 4 = (l.drop 4).take (4 * (r + 1)) := by rw [List.drop_take]; congr 1
    have e2 : (l.take (4 * (r + 1))).drop 4 = (l.drop 4).take (4 * r) := by rw [List.drop_take]; congr 1
    have e3 : ∀ n, 4 ≤ n → Pl.hashOf (l.take n) = Pl.hashOf l := by
      intro n hn
      unfold Pl.hashOf
      rw [List.take_append_of_le_length (by rw [List.length_take]; omega), List.take_take, List.take_append_of_le_length (by omega), Nat.min_eq_left (by omega)]
    rw [Pl.groups_long _ (by rw [List.length_take]; omega), e1, ih (l.drop 4) (by rw [List.length_drop]; omega), Pl.groups_long (l.take (4 * (r + 1))) (by rw [List.length_take]; omega), e2, e3 _ (by omega), e3 _ (by omega)]
    rw [List.cons_append, List.drop_drop, show 4 + 4 * r = 4 * (r + 1) by omega]
theorem HashesAt.step {l1 lr : List UInt8} {bad1 : Bool} {r : Nat} {ps : List Nat} (h : HashesAt l1 bad1 r ps lr false) : HashesAt l1 bad1 (r + 1) (ps ++ [Pl.hashOf (lr.take 4)]) (lr.drop 4) (false || decide (lr.length < 4)) := by
  rcases h with ⟨h, _⟩ | ⟨_, h1, h2, rfl, rfl⟩
  · cases h
  · by_cases hl : (l1.drop (4 * r)).length < 4
    · refine .inl ⟨by rw [decide_eq_true hl]; rfl, .inr ?_⟩
      rw [List.length_drop] at hl
      omega
    · refine .inr ⟨by rw [decide_eq_false hl]; rfl, h1, ?_, ?_, ?_⟩
      · rw [List.length_drop] at hl; omega
      · rw [List.length_drop] at hl; rw [groups_snoc l1 r (by omega)]
      · rw [List.drop_drop]; congr 1
theorem HashesAt.done {l : List UInt8} {bad : Bool} {r : Nat} {ps : List Nat} {lr : List UInt8} {br : Bool} (h : HashesAt (l.drop 1) (bad || decide (l.length < 1)) r ps lr br) (hr : r ≤ Pl.num (l.take 1)) (he : br = false → r = Pl.num (l.take 1)) : HashesTo l bad ps lr br := by
  rcases h with ⟨rfl, h⟩ | ⟨rfl, h1, h2, rfl, rfl⟩
  · refine .inl ⟨rfl, ?_⟩
    rcases h with h | h
    · simp at h
      rcases h with h | h
      · exact .inl h
      · exact .inr (.inl (by rw [h]; simp))
    · exact .inr (.inr (by omega))
  · obtain rfl := he rfl
    have h3 : bad = false ∧ 1 ≤ l.length := by
      cases bad
      · have : ¬ l.length < 1 := by simpa using h1
        exact ⟨rfl, by omega⟩
      · simp at h1
    exact .inr ⟨rfl, h3.1, h3.2, h2, rfl, rfl⟩

def HashesPost (w : World) (g : Nat) (l : List UInt8) (bad : Bool) (e : Ending) (w' : World) : Prop :=
  ∃ v ps l' bad', e = .returned v ∧ w'.ownsRow w.heap.size 73 4 v ps.length (hcs ps) ∧ (∀ x ∈ ps, x < 4294967296) ∧ Rdr w' g l' bad' ∧ w.grownBy w' (some g) ∧ HashesTo l bad ps l' bad'
set_option maxHeartbeats 2000000 in
theorem hashes_any (g : Nat) (l : List UInt8) (bad : Bool) (w : World) (h : Rdr w g l bad) :
    Calls Tryd.prog 84 #[.pointer (some ⟨g, 0, none⟩)] w (HashesPost w g l bad) := by
  obtain ⟨i0, hi0, hz0, hz1, hz2⟩ := info_parts Tryd.infoHash
  have hlt := h.lt
  have hn := Pl.num_take_lt l 1
  go_enter Tryd.func84, Tryd.ntmps84
  go_wp2_with fail
  refine (num_any g 1 l bad w h (by omega)).mono ?_
  rintro e w1 ⟨rfl, hR, hg⟩
  obtain ⟨N, hN⟩ : ∃ N, Pl.num (l.take 1) = N := ⟨_, rfl⟩
  obtain ⟨b1, hb1⟩ : ∃ b1, (bad || decide (l.length < 1)) = b1 := ⟨_, rfl⟩
  rw [hN] at hn ⊢
  rw [hb1] at hR
  have HN := Lib.hid hN
  have HB1 := Lib.hid hb1
  have hO := Lib.hid (Only.of_grown hg)
  have hsz1 := hg.size
  have hn' : N < 256 := by simpa using hn
  clear hN hb1 hg h hn
  go_wp2_with fail
  go_loopw [3, 4] (fun v n wr => ∃ (r : Nat) (ps : List Nat) (lr : List UInt8) (br : Bool), r ≤ N ∧ n = .int .i64 ((N - r : Nat) : Int) ∧ Hid (ps.length = r) ∧ wr.ownsRow w.heap.size 73 4 v r (hcs ps) ∧ Hid (∀ x ∈ ps, x < 4294967296) ∧
      Rdr wr g lr br ∧ Hid (Only (· = g) w wr) ∧ Hid (HashesAt (l.drop 1) b1 r ps lr br)) (fun _ n _ => (intOf n).toNat)
  case atStart => exact ⟨0, [], _, _, Nat.zero_le _, rfl, rfl, World.ownsRow_nil _ _ _ _, by intro x hx; simp at hx, hR, hO.out, HashesAt.start _ _⟩
  case round =>
    obtain ⟨r, ps, lr, br, hr, rfl, HPL, hown, HLT, hRr, HO, HAT⟩ := hrel
    obtain ⟨q, hq⟩ : ∃ q, N - r = q := ⟨_, rfl⟩
    rw [hq]
    have hq' : r + q = N := by omega
    have HQ := Lib.hid hq'
    have hrN : r ≤ N := hr
    have hqb : q < 256 := by omega
    clear hq hq'
    obtain ⟨A, cap, hrc, hrm, hrB, hrb, hrA⟩ := hRr
    have c1 := hrB.cell 1
    simp only [List.getElem?_cons_succ, List.getElem?_cons_zero] at c1
    have hRr : Hid (Rdr wr g lr br) := ⟨A, cap, hrc, hrm, hrB, hrb, hrA⟩
    clear hrc hrm hrB hrb hrA
    by_cases hq0 : 0 < q
    · have hq1 : (0 : Int) < (q : Int) := by omega
      cases br with
      | false =>
        have hsz := Lib.hid HO.out.size
        have hbase : w.heap.size ≤ wr.heap.size := HO.out.size
        have hx := Pl.hashOf_lt (lr.take 4)
        obtain ⟨x, hxx⟩ : ∃ x, Pl.hashOf (lr.take 4) = x := ⟨_, rfl⟩
        rw [hxx] at hx
        have HXX := Lib.hid hxx
        have h63 := Lib.hid (show r + 1 ≤ maxLen by simp only [maxLen]; omega)
        have hroom := Lib.hid (hash_room (n := r) (m := 1) (by omega))
        clear hxx
        go_wp2_with fail
        refine (hashRd_any g lr false wr hRr.out).mono ?_
        rintro e w2 ⟨rfl, hR2, hg2⟩
        rw [HXX.out]
        have hbase2 : w.heap.size ≤ w2.heap.size := Nat.le_trans hbase hg2.size
        have hbase3 := size_alloc_le hbase2 (.cells (hc x).toArray 73)
        have hown2 := Lib.hid ((hown.kept hg2 (by
          rcases hv : u3.ownBlock with _ | k
          · exact .inl rfl
          · right
            have := (hown.lt k hv).1
            intro e
            have := Option.some.inj e
            omega)).alloc (.cells (hc x).toArray 73))
        have hsrc2 := Lib.hid (Src.of_blk (Blk.new w2 73 (hc x)))
        have HO2 := Lib.hid ((HO.out.trans' (Only.of_grown hg2)).alloc (.cells (hc x).toArray 73))
        have hR3 := Lib.hid (hR2.below (w' := w2.alloc (.cells (hc x).toArray 73)) ((Below.refl _ _).alloc (Nat.le_refl _) _))
        clear hg2 hR2 hown
        unfold hashVal
        go_wp2_with (at_builtin
                     refine wpList_append_src _ rfl (.tmp 18) (.tmp 21) 156 rfl w.heap.size 73 i0 (hashVal 0) 4 4 Tryd.underlying156 hi0 hz0 hz1 hz2 rfl (by decide) u3 r (hcs ps) rfl hown2.out (some ⟨w2.heap.size, 0, none⟩) 1 1 (hc x) rfl rfl hsrc2.out (hc_one x) h63.out hroom.out hbase3 ?_
                     intro v3 w3 hown3 hgrow3 hat3)
        have hq2 := HQ.out
        refine ⟨⟨r + 1, ps ++ [x], lr.drop 4, (false || decide (lr.length < 4)), by omega, ?_, ?_, ?_, ?_, ?_, ?_, ?_⟩, ?_⟩
        · rw [show ((N - (r + 1) : Nat) : Int) = (q : Int) - 1 by omega]
        · have := HPL.out
          rw [Hid, List.length_append, this]; rfl
        · rw [hcs_append, hcs_one]; exact hown3
        · intro y hy
          rcases List.mem_append.1 hy with hy | hy
          · exact HLT.out y hy
          · simp at hy; subst hy; exact hx
        · refine hR3.out.only (Only.mono (G := fun k => u3.ownBlock = some k ∨ w2.heap.size ≤ k) ⟨hgrow3.os, hgrow3.tape, hgrow3.output, hgrow3.size, fun k hk hn => hgrow3.block k hk (fun e => hn e.symm)⟩ (fun x _ hx => .inl hx)) (fun y hy hn => ?_)
          rcases hn with hn | hn
          · have := (hown2.out.lt y hn).1
            omega
          · have := hR3.out.lt
            simp at this
            omega
        · exact HO2.out.grown hgrow3 (fun k hk => .inr (hown2.out.lt k hk).1)
        · have := HAT.out.step
          rw [HXX.out] at this
          exact this
        · simp [intOf]; omega
      | true =>
        have hdone : HashesTo l bad ps lr true := by
          have hat := HAT.out
          rw [← HB1.out] at hat
          exact hat.done (by rw [HN.out]; exact hrN) (fun e => by cases e)
        have HD := Lib.hid hdone
        clear hdone HAT
        go_wp2_with fail
        go_ret
        have hpl := HPL.out
        subst hpl
        exact ⟨_, ps, lr, true, rfl, hown, HLT.out, hRr.out, HO.out.to_grown, HD.out⟩
    · have hq1 : ¬ (0 : Int) < (q : Int) := by omega
      have hdone : HashesTo l bad ps lr br := by
        have hat := HAT.out
        rw [← HB1.out] at hat
        exact hat.done (by rw [HN.out]; exact hrN) (fun e => by rw [HN.out]; have := HQ.out; omega)
      have HD := Lib.hid hdone
      clear hdone HAT
      go_wp2_with fail
      go_ret
      have hpl := HPL.out
      subst hpl
      exact ⟨_, ps, lr, br, rfl, hown, HLT.out, hRr.out, HO.out.to_grown, HD.out⟩

theorem own_nil_ready (w : World) : Ready w w.heap.size 5 1 (.slice none 0 0) 0 (bv []) := .own (World.ownsRow_nil _ _ _ _)
set_option maxHeartbeats 1000000 in
theorem entry_any (n t ops r : Nat) (w : World) (hn : n < 4294967296) (ht : t < 18446744073709551616) (ho : ops < 256) (hr : r < 4294967296) :
    Calls Tryd.prog 87 #[.int .i64 n, .int .u64 t, .int .i64 ops, hashVal r] w fun e w' => ∃ A' cap', e = .returned (.slice A' 17 cap') ∧ BytesAt w' A' (Pl.entry n (Pl.be 8 t) ops r) ∧ Below w.heap.size w w' := by
  obtain ⟨i0, hi, hz0, hz1, hz2⟩ := info_parts Tryd.infoByte
  have hB := Blk.new w 73 (hc r)
  have HB := Lib.hid hB
  have HR := Lib.hid (hc_be r hr)
  have hbel0 := Lib.hid ((Below.refl w.heap.size w).alloc (Nat.le_refl _) (.cells (hc r).toArray 73))
  obtain ⟨c, hcc⟩ : ∃ c : UInt8, c.toNat = ops := ⟨UInt8.ofNat ops, by simp; omega⟩
  have HC : Hid (UInt8.ofNat ops = c) := by rw [Hid, ← hcc]; simp
  clear hB
  unfold hashVal
  unfold hc at HB hbel0
  go_enter Tryd.func87, Tryd.ntmps87
  go_wp2_with fail
  refine (put_any (.slice none 0 0) 0 [] n 4 (w.heap.size + 1) _ (by exact .own (World.ownsRow_nil _ _ _ _)) (by simp) (by omega) (by omega) (by omega) (by omega)).mono ?_
  rintro e w1 ⟨v1, rfl, hown1, hb1, hkeep1⟩
  obtain ⟨k1, n1⟩ := hkeep1 w.heap.size (by simp) (fun e => by cases e)
  have HB1 := Lib.hid (k1.trans HB.out)
  have hbel1 := Lib.hid (hbel0.out.trans (hb1.mono (by simp)))
  have hsz1 := hb1.size
  simp only [World.size_alloc] at hsz1
  have HN1 := Lib.hid n1
  clear hkeep1 k1 n1 hb1
  go_wp2_with fail
  refine (put_any v1 4 (Pl.be 4 n) t 8 (w.heap.size + 1) w1 (by exact .own hown1) hsz1 (by omega) (by omega) (by omega) (by omega)).mono ?_
  rintro e w2 ⟨v2, rfl, hown2, hb2, hkeep2⟩
  obtain ⟨k2, n2⟩ := hkeep2 w.heap.size (by omega) HN1.out
  have HB2 := Lib.hid (k2.trans HB1.out)
  have hbel2 := Lib.hid ((hbel1.out.trans (hb2.mono (by omega))).alloc (Nat.le_trans (by omega) hb2.size) (.cells #[.int .u8 (ops : Int)] 5))
  have hsz2 : w.heap.size + 1 ≤ w2.heap.size := Nat.le_trans hsz1 hb2.size
  have HN2 := Lib.hid n2
  have hown3 := Lib.hid (hown2.alloc (.cells #[.int .u8 (ops : Int)] 5))
  have hsrc3 := Lib.hid (Src.of_blk (Blk.new w2 5 [.int .u8 (ops : Int)]))
  have HB3 := Lib.hid (Blk.alloc HB2.out (.cells #[.int .u8 (ops : Int)] 5))
  have hone : Hid (∀ u ∈ [Value.int .u8 (ops : Int)], u.oneCell' = true) := by
    intro u hu
    simp at hu
    subst hu
    rfl
  have hbase3 : w.heap.size + 1 ≤ (w2.alloc (.cells #[.int .u8 (ops : Int)] 5)).heap.size := Nat.le_trans hsz2 (by simp)
  have hv2lt := Lib.hid hown2.lt
  clear hkeep2 k2 n2 hb2 hown2
  go_wp2_with (first
    | (at_builtin
       refine wpList_append_src _ rfl (.tmp 14) (.tmp 17) 23 rfl (w.heap.size + 1) 5 i0 (.int .u8 0) 1 1 Tryd.underlying23 hi hz0 hz1 hz2 rfl (by decide) v2 12 _ rfl hown3.out (some ⟨w2.heap.size, 0, none⟩) 1 1 [.int .u8 (ops : Int)] rfl rfl hsrc3.out hone.out (by simp only [maxLen]; omega) (byte_room (by omega)) hbase3 ?_
       intro v3 w3 hown4 hg3 hat3
       have hn3 : v2.ownBlock ≠ some w.heap.size := HN2.out
       have HB4 := Lib.hid (Blk.grown HB3.out hg3 (fun e => HN2.out e.symm))
       have hsrc4 := Lib.hid (Src.of_blk HB4.out)
       have hbel3 := Lib.hid (hbel2.out.grown hg3 (Nat.le_trans (by omega) hbase3) (fun k hk => by have := (hown3.out.lt k hk).1; omega))
       have hbase4 := Nat.le_trans hbase3 hg3.size)
    | (at_builtin
       refine wpList_append_src _ rfl (.tmp 19) (.tmp 20) 23 rfl (w.heap.size + 1) 5 i0 (.int .u8 0) 1 1 Tryd.underlying23 hi hz0 hz1 hz2 rfl (by decide) v3 13 _ rfl hown4 (some ⟨w.heap.size, 0, none⟩) 4 4 (hc r) rfl rfl hsrc4.out (hc_one r) (by simp only [maxLen]; omega) (byte_room (by omega)) hbase4 ?_
       intro v4 w4 hown5 hg4 hat4
       have hbel4 := Lib.hid (hbel3.out.grown hg4 (Nat.le_trans (by omega) hbase4) (fun k hk => by have := (hown4.lt k hk).1; omega))))
  obtain ⟨A1, cap1, rfl, hcap, hsrc, _⟩ := own_src hown5
  go_wp2
  go_ret
  refine ⟨A1, cap1, by simp, Src.bytes ?_, hbel4.out⟩
  have he : bv (Pl.entry n (Pl.be 8 t) ops r) = bv ([] ++ Pl.be 4 n ++ Pl.be 8 t) ++ [.int .u8 (ops : Int)] ++ hc r := by
    rw [HR.out, ← hcc, show [Value.int .u8 ((c.toNat : Nat) : Int)] = bv [c] from rfl, ← bv_append, ← bv_append]
    simp [Pl.entry]
  rw [he]
  exact hsrc
end Go.Proofs.YtljmklohgpaopaaDoor
