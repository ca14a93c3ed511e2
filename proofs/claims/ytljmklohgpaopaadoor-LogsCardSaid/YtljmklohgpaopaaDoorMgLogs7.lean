/- The walks of the chain's hashes and entry. The walk of chain.Extends. The reader's calls, told with how the evidence is taken apart. -/
import Derived.Test.YtljmklohgpaopaaDoorMgLogs6
import Derived.Test.YtljmklohgpaopaaDoorMgLogs3
import Derived.Deep.CutRange
import Derived.Test.YtljmklohgpaopaaDoorMgLogs4

namespace Go.Proofs.YtljmklohgpaopaaDoor
open Go.RowKit

/-- What hashes makes of a reader. -/
def HashesTo (l : List UInt8) (bad : Bool) (ps : List Nat) (l' : List UInt8) (bad' : Bool) : Prop :=
  (bad' = true ∧ (bad = true ∨ l.length < 1 ∨ (l.drop 1).length < 4 * Pl.num (l.take 1))) ∨
  (bad' = false ∧ bad = false ∧ 1 ≤ l.length ∧ 4 * Pl.num (l.take 1) ≤ (l.drop 1).length ∧ ps = Pl.groups ((l.drop 1).take (4 * Pl.num (l.take 1))) ∧ l' = (l.drop 1).drop (4 * Pl.num (l.take 1)))
theorem HashesTo.st {l l' : List UInt8} {bad bad' : Bool} {ps : List Nat} (h : HashesTo l bad ps l' bad') {o : Option Pl.Ev} {f : List UInt8 → List UInt8 → Option Pl.Ev}
    (hs : Pl.St o bad (Pl.bt 1 l fun k l => Pl.bt (4 * Pl.num k) l f)) : ∃ p, Pl.St o bad' (f p l') ∧ (bad' = false → ps = Pl.groups p) := by
  rcases h with ⟨rfl, h⟩ | ⟨rfl, rfl, h1, h2, rfl, rfl⟩
  · refine ⟨[], ?_, fun h => by cases h⟩
    rcases h with rfl | h | h
    · exact hs.bad _
    · exact hs.short h _
    · exact hs.take.short h _
  · refine ⟨(l.drop 1).take (4 * Pl.num (l.take 1)), ?_, fun _ => rfl⟩
    have := hs.take.take
    rwa [decide_eq_false (by omega), decide_eq_false (by omega), Bool.or_false, Bool.or_false] at this
/-- Where the loop stands behind so many rounds. -/
def HashesAt (l1 : List UInt8) (bad1 : Bool) (r : Nat) (ps : List Nat) (lr : List UInt8) (br : Bool) : Prop :=
  (br = true ∧ (bad1 = true ∨ l1.length < 4 * r)) ∨ (br = false ∧ bad1 = false ∧ 4 * r ≤ l1.length ∧ ps = Pl.groups (l1.take (4 * r)) ∧ lr = l1.drop (4 * r))
theorem HashesAt.start (l1 : List UInt8) (bad1 : Bool) : HashesAt l1 bad1 0 [] l1 bad1 := by
  cases bad1
  · exact .inr ⟨rfl, rfl, by omega, by simp [Pl.groups], by simp⟩
  · exact .inl ⟨rfl, .inl rfl⟩
theorem groups_snoc (l : List UInt8) (r : Nat) (h : 4 * (r + 1) ≤ l.length) : Pl.groups (l.take (4 * (r + 1))) = Pl.groups (l.take (4 * r)) ++ [Pl.hashOf ((l.drop (4 * r)).take 4)] := by
  induction r generalizing l with
  | zero =>
    rw [Nat.zero_add, Nat.mul_one, Pl.groups_long _ (by rw [List.length_take]; omega), Pl.groups_short _ (by rw [List.length_drop, List.length_take]; omega)]
    rfl
  | succ r ih =>
    have e1 : (l.take (4 * (r + 1 + 1))).drop 4 = (l.drop 4).take (4 * (r + 1)) := by rw [List.drop_take]; congr 1
    have e2 : (l.take (4 * (r + 1))).drop 4 = (l.drop 4).take (4 * r) := by rw [List.drop_take]; congr 1
    have e3 : ∀ n, 4 ≤ n → Pl.hashOf (l.take n) = Pl.hashOf l := by
      intro n hn
      unfold Pl.hashOf
      rw [List.take_append_of_le_length (by rw [List.length_take]; omega), List.take_take, List.take_append_of_le_length (by omega), Nat.min_eq_left (by omega)]
    rw [Pl.groups_long _ (by rw [List.length_take]; omega), e1, ih (l.drop 4) (by rw [List.length_drop]; omega), Pl.groups_long (l.take (4 * (r + 1))) (by rw [List.length_take]; omega), e2, e3 _ (by omega), e3 _ (by omega)]
    rw [List.cons_append, List.drop_drop, show 4 + 4 * r = 4 * (r + 1) by omega]
theorem HashesAt.step {l1 lr : List UInt8} {bad1 : Bool} {r : Nat} {ps : List Nat} (h : HashesAt l1 bad1 r ps lr false) : HashesAt l1 bad1 (r + 1) (ps ++ [Pl.hashOf (lr.take 4)]) (lr.drop 4) (false || decide (lr.length < 4)) := by
  rcases h with ⟨h, _⟩ | ⟨_, h1, h2, rfl, rfl⟩
  · cases h
  · by_cases hl : (l1.drop (4 * r)).length < 4
    · refine .inl ⟨by rw [decide_eq_true hl]; rfl, .inr ?_⟩
      rw [List.length_drop] at hl
      omega
    · refine .inr ⟨by rw [decide_eq_false hl]; rfl, h1, ?_, ?_, ?_⟩
      · rw [List.length_drop] at hl; omega
      · rw [List.length_drop] at hl; rw [groups_snoc l1 r (by omega)]
      · rw [List.drop_drop]; congr 1
theorem HashesAt.done {l : List UInt8} {bad : Bool} {r : Nat} {ps : List Nat} {lr : List UInt8} {br : Bool} (h : HashesAt (l.drop 1) (bad || decide (l.length < 1)) r ps lr br) (hr : r ≤ Pl.num (l.take 1)) (he : br = false → r = Pl.num (l.take 1)) : HashesTo l bad ps lr br := by
  rcases h with ⟨rfl, h⟩ | ⟨rfl, h1, h2, rfl, rfl⟩
  · refine .inl ⟨rfl, ?_⟩
    rcases h with h | h
    · simp at h
      rcases h with h | h
      · exact .inl h
      · exact .inr (.inl (by rw [h]; simp))
    · exact .inr (.inr (by omega))
  · obtain rfl := he rfl
    have h3 : bad = false ∧ 1 ≤ l.length := by
      cases bad
      · have : ¬ l.length < 1 := by simpa using h1
        exact ⟨rfl, by omega⟩
      · simp at h1
    exact .inr ⟨rfl, h3.1, h3.2, h2, rfl, rfl⟩

def HashesPost (w : World) (g : Nat) (l : List UInt8) (bad : Bool) (e : Ending) (w' : World) : Prop :=
  ∃ v ps l' bad', e = .returned v ∧ w'.ownsRow w.heap.size 73 4 v ps.length (hcs ps) ∧ (∀ x ∈ ps, x < 4294967296) ∧ Rdr w' g l' bad' ∧ w.grownBy w' (some g) ∧ HashesTo l bad ps l' bad'
set_option maxHeartbeats 2000000 in
theorem hashes_any (g : Nat) (l : List UInt8) (bad : Bool) (w : World) (h : Rdr w g l bad) :
    Calls Tryd.prog 84 #[.pointer (some ⟨g, 0, none⟩)] w (HashesPost w g l bad) := by
  obtain ⟨i0, hi0, hz0, hz1, hz2⟩ := info_parts Tryd.infoHash
  have hlt := h.lt
  have hn := Pl.num_take_lt l 1
  go_enter Tryd.func84, Tryd.ntmps84
  go_wp2_with fail
  refine (num_any g 1 l bad w h (by omega)).mono ?_
  rintro e w1 ⟨rfl, hR, hg⟩
  obtain ⟨N, hN⟩ : ∃ N, Pl.num (l.take 1) = N := ⟨_, rfl⟩
  obtain ⟨b1, hb1⟩ : ∃ b1, (bad || decide (l.length < 1)) = b1 := ⟨_, rfl⟩
  rw [hN] at hn ⊢
  rw [hb1] at hR
  have HN := Lib.hid hN
  have HB1 := Lib.hid hb1
  have hO := Lib.hid (Only.of_grown hg)
  have hsz1 := hg.size
  have hn' : N < 256 := by simpa using hn
  clear hN hb1 hg h hn
  go_wp2_with fail
  go_loopw [3, 4] (fun v n wr => ∃ (r : Nat) (ps : List Nat) (lr : List UInt8) (br : Bool), r ≤ N ∧ n = .int .i64 ((N - r : Nat) : Int) ∧ Hid (ps.length = r) ∧ wr.ownsRow w.heap.size 73 4 v r (hcs ps) ∧ Hid (∀ x ∈ ps, x < 4294967296) ∧
      Rdr wr g lr br ∧ Hid (Only (· = g) w wr) ∧ Hid (HashesAt (l.drop 1) b1 r ps lr br)) (fun _ n _ => (intOf n).toNat)
  case atStart => exact ⟨0, [], _, _, Nat.zero_le _, rfl, rfl, World.ownsRow_nil _ _ _ _, by intro x hx; simp at hx, hR, hO.out, HashesAt.start _ _⟩
  case round =>
    obtain ⟨r, ps, lr, br, hr, rfl, HPL, hown, HLT, hRr, HO, HAT⟩ := hrel
    obtain ⟨q, hq⟩ : ∃ q, N - r = q := ⟨_, rfl⟩
    rw [hq]
    have hq' : r + q = N := by omega
    have HQ := Lib.hid hq'
    have hrN : r ≤ N := hr
    have hqb : q < 256 := by omega
    clear hq hq'
    obtain ⟨A, cap, hrc, hrm, hrB, hrb, hrA⟩ := hRr
    have c1 := hrB.cell 1
    simp only [List.getElem?_cons_succ, List.getElem?_cons_zero] at c1
    have hRr : Hid (Rdr wr g lr br) := ⟨A, cap, hrc, hrm, hrB, hrb, hrA⟩
    clear hrc hrm hrB hrb hrA
    by_cases hq0 : 0 < q
    · have hq1 : (0 : Int) < (q : Int) := by omega
      cases br with
      | false =>
        have hsz := Lib.hid HO.out.size
        have hbase : w.heap.size ≤ wr.heap.size := HO.out.size
        have hx := Pl.hashOf_lt (lr.take 4)
        obtain ⟨x, hxx⟩ : ∃ x, Pl.hashOf (lr.take 4) = x := ⟨_, rfl⟩
        rw [hxx] at hx
        have HXX := Lib.hid hxx
        have h63 := Lib.hid (show r + 1 ≤ maxLen by simp only [maxLen]; omega)
        have hroom := Lib.hid (hash_room (n := r) (m := 1) (by omega))
        clear hxx
        go_wp2_with fail
        refine (hashRd_any g lr false wr hRr.out).mono ?_
        rintro e w2 ⟨rfl, hR2, hg2⟩
        rw [HXX.out]
        have hbase2 : w.heap.size ≤ w2.heap.size := Nat.le_trans hbase hg2.size
        have hbase3 := size_alloc_le hbase2 (.cells (hc x).toArray 73)
        have hown2 := Lib.hid ((hown.kept hg2 (by
          rcases hv : u3.ownBlock with _ | k
          · exact .inl rfl
          · right
            have := (hown.lt k hv).1
            intro e
            have := Option.some.inj e
            omega)).alloc (.cells (hc x).toArray 73))
        have hsrc2 := Lib.hid (Src.of_blk (Blk.new w2 73 (hc x)))
        have HO2 := Lib.hid ((HO.out.trans' (Only.of_grown hg2)).alloc (.cells (hc x).toArray 73))
        have hR3 := Lib.hid (hR2.below (w' := w2.alloc (.cells (hc x).toArray 73)) ((Below.refl _ _).alloc (Nat.le_refl _) _))
        clear hg2 hR2 hown
        unfold hashVal
        go_wp2_with (at_builtin
                     refine wpList_append_src _ rfl (.tmp 18) (.tmp 21) 156 rfl w.heap.size 73 i0 (hashVal 0) 4 4 Tryd.underlying156 hi0 hz0 hz1 hz2 rfl (by decide) u3 r (hcs ps) rfl hown2.out (some ⟨w2.heap.size, 0, none⟩) 1 1 (hc x) rfl rfl hsrc2.out (hc_one x) h63.out hroom.out hbase3 ?_
                     intro v3 w3 hown3 hgrow3 hat3)
        have hq2 := HQ.out
        refine ⟨⟨r + 1, ps ++ [x], lr.drop 4, (false || decide (lr.length < 4)), by omega, ?_, ?_, ?_, ?_, ?_, ?_, ?_⟩, ?_⟩
        · rw [show ((N - (r + 1) : Nat) : Int) = (q : Int) - 1 by omega]
        · have := HPL.out
          rw [Hid, List.length_append, this]; rfl
        · rw [hcs_append, hcs_one]; exact hown3
        · intro y hy
          rcases List.mem_append.1 hy with hy | hy
          · exact HLT.out y hy
          · simp at hy; subst hy; exact hx
        · refine hR3.out.only (Only.mono (G := fun k => u3.ownBlock = some k ∨ w2.heap.size ≤ k) ⟨hgrow3.os, hgrow3.tape, hgrow3.output, hgrow3.size, fun k hk hn => hgrow3.block k hk (fun e => hn e.symm)⟩ (fun x _ hx => .inl hx)) (fun y hy hn => ?_)
          rcases hn with hn | hn
          · have := (hown2.out.lt y hn).1
            omega
          · have := hR3.out.lt
            simp at this
            omega
        · exact HO2.out.grown hgrow3 (fun k hk => .inr (hown2.out.lt k hk).1)
        · have := HAT.out.step
          rw [HXX.out] at this
          exact this
        · simp [intOf]; omega
      | true =>
        have hdone : HashesTo l bad ps lr true := by
          have hat := HAT.out
          rw [← HB1.out] at hat
          exact hat.done (by rw [HN.out]; exact hrN) (fun e => by cases e)
        have HD := Lib.hid hdone
        clear hdone HAT
        go_wp2_with fail
        go_ret
        have hpl := HPL.out
        subst hpl
        exact ⟨_, ps, lr, true, rfl, hown, HLT.out, hRr.out, HO.out.to_grown, HD.out⟩
    · have hq1 : ¬ (0 : Int) < (q : Int) := by omega
      have hdone : HashesTo l bad ps lr br := by
        have hat := HAT.out
        rw [← HB1.out] at hat
        exact hat.done (by rw [HN.out]; exact hrN) (fun e => by rw [HN.out]; have := HQ.out; omega)
      have HD := Lib.hid hdone
      clear hdone HAT
      go_wp2_with fail
      go_ret
      have hpl := HPL.out
      subst hpl
      exact ⟨_, ps, lr, br, rfl, hown, HLT.out, hRr.out, HO.out.to_grown, HD.out⟩

theorem own_nil_ready (w : World) : Ready w w.heap.size 5 1 (.slice none 0 0) 0 (bv []) := .own (World.ownsRow_nil _ _ _ _)
set_option maxHeartbeats 1000000 in
theorem entry_any (n t ops r : Nat) (w : World) (hn : n < 4294967296) (ht : t < 18446744073709551616) (ho : ops < 256) (hr : r < 4294967296) :
    Calls Tryd.prog 87 #[.int .i64 n, .int .u64 t, .int .i64 ops, hashVal r] w fun e w' => ∃ A' cap', e = .returned (.slice A' 17 cap') ∧ BytesAt w' A' (Pl.entry n (Pl.be 8 t) ops r) ∧ Below w.heap.size w w' := by
  obtain ⟨i0, hi, hz0, hz1, hz2⟩ := info_parts Tryd.infoByte
  have hB := Blk.new w 73 (hc r)
  have HB := Lib.hid hB
  have HR := Lib.hid (hc_be r hr)
  have hbel0 := Lib.hid ((Below.refl w.heap.size w).alloc (Nat.le_refl _) (.cells (hc r).toArray 73))
  obtain ⟨c, hcc⟩ : ∃ c : UInt8, c.toNat = ops := ⟨UInt8.ofNat ops, by simp; omega⟩
  have HC : Hid (UInt8.ofNat ops = c) := by rw [Hid, ← hcc]; simp
  clear hB
  unfold hashVal
  unfold hc at HB hbel0
  go_enter Tryd.func87, Tryd.ntmps87
  go_wp2_with fail
  refine (put_any (.slice none 0 0) 0 [] n 4 (w.heap.size + 1) _ (by exact .own (World.ownsRow_nil _ _ _ _)) (by simp) (by omega) (by omega) (by omega) (by omega)).mono ?_
  rintro e w1 ⟨v1, rfl, hown1, hb1, hkeep1⟩
  obtain ⟨k1, n1⟩ := hkeep1 w.heap.size (by simp) (fun e => by cases e)
  have HB1 := Lib.hid (k1.trans HB.out)
  have hbel1 := Lib.hid (hbel0.out.trans (hb1.mono (by simp)))
  have hsz1 := hb1.size
  simp only [World.size_alloc] at hsz1
  have HN1 := Lib.hid n1
  clear hkeep1 k1 n1 hb1
  go_wp2_with fail
  refine (put_any v1 4 (Pl.be 4 n) t 8 (w.heap.size + 1) w1 (by exact .own hown1) hsz1 (by omega) (by omega) (by omega) (by omega)).mono ?_
  rintro e w2 ⟨v2, rfl, hown2, hb2, hkeep2⟩
  obtain ⟨k2, n2⟩ := hkeep2 w.heap.size (by omega) HN1.out
  have HB2 := Lib.hid (k2.trans HB1.out)
  have hbel2 := Lib.hid ((hbel1.out.trans (hb2.mono (by omega))).alloc (Nat.le_trans (by omega) hb2.size) (.cells #[.int .u8 (ops : Int)] 5))
  have hsz2 : w.heap.size + 1 ≤ w2.heap.size := Nat.le_trans hsz1 hb2.size
  have HN2 := Lib.hid n2
  have hown3 := Lib.hid (hown2.alloc (.cells #[.int .u8 (ops : Int)] 5))
  have hsrc3 := Lib.hid (Src.of_blk (Blk.new w2 5 [.int .u8 (ops : Int)]))
  have HB3 := Lib.hid (Blk.alloc HB2.out (.cells #[.int .u8 (ops : Int)] 5))
  have hone : Hid (∀ u ∈ [Value.int .u8 (ops : Int)], u.oneCell' = true) := by
    intro u hu
    simp at hu
    subst hu
    rfl
  have hbase3 : w.heap.size + 1 ≤ (w2.alloc (.cells #[.int .u8 (ops : Int)] 5)).heap.size := Nat.le_trans hsz2 (by simp)
  have hv2lt := Lib.hid hown2.lt
  clear hkeep2 k2 n2 hb2 hown2
  go_wp2_with (first
    | (at_builtin
       refine wpList_append_src _ rfl (.tmp 14) (.tmp 17) 23 rfl (w.heap.size + 1) 5 i0 (.int .u8 0) 1 1 Tryd.underlying23 hi hz0 hz1 hz2 rfl (by decide) v2 12 _ rfl hown3.out (some ⟨w2.heap.size, 0, none⟩) 1 1 [.int .u8 (ops : Int)] rfl rfl hsrc3.out hone.out (by simp only [maxLen]; omega) (byte_room (by omega)) hbase3 ?_
       intro v3 w3 hown4 hg3 hat3
       have hn3 : v2.ownBlock ≠ some w.heap.size := HN2.out
       have HB4 := Lib.hid (Blk.grown HB3.out hg3 (fun e => HN2.out e.symm))
       have hsrc4 := Lib.hid (Src.of_blk HB4.out)
       have hbel3 := Lib.hid (hbel2.out.grown hg3 (Nat.le_trans (by omega) hbase3) (fun k hk => by have := (hown3.out.lt k hk).1; omega))
       have hbase4 := Nat.le_trans hbase3 hg3.size)
    | (at_builtin
       refine wpList_append_src _ rfl (.tmp 19) (.tmp 20) 23 rfl (w.heap.size + 1) 5 i0 (.int .u8 0) 1 1 Tryd.underlying23 hi hz0 hz1 hz2 rfl (by decide) v3 13 _ rfl hown4 (some ⟨w.heap.size, 0, none⟩) 4 4 (hc r) rfl rfl hsrc4.out (hc_one r) (by simp only [maxLen]; omega) (byte_room (by omega)) hbase4 ?_
       intro v4 w4 hown5 hg4 hat4
       have hbel4 := Lib.hid (hbel3.out.grown hg4 (Nat.le_trans (by omega) hbase4) (fun k hk => by have := (hown4.lt k hk).1; omega))))
  obtain ⟨A1, cap1, rfl, hcap, hsrc, _⟩ := own_src hown5
  go_wp2
  go_ret
  refine ⟨A1, cap1, by simp, Src.bytes ?_, hbel4.out⟩
  have he : bv (Pl.entry n (Pl.be 8 t) ops r) = bv ([] ++ Pl.be 4 n ++ Pl.be 8 t) ++ [.int .u8 (ops : Int)] ++ hc r := by
    rw [HR.out, ← hcc, show [Value.int .u8 ((c.toNat : Nat) : Int)] = bv [c] from rfl, ← bv_append, ← bv_append]
    simp [Pl.entry]
  rw [he]
  exact hsrc
end Go.Proofs.YtljmklohgpaopaaDoor

namespace Go.Proofs.YtljmklohgpaopaaDoor
open Go.RowKit

namespace Pl
theorem header_eq (b h : Nat) (l : List UInt8) (hl : 13 ≤ l.length) : (l.take 13 == header b h (hashOf ((l.take 13).drop 9))) = decide (l.take 9 = 66 :: (be 4 b ++ be 4 h)) := by
  have hr : be 4 (hashOf ((l.take 13).drop 9)) = (l.take 13).drop 9 := by
    rw [be_hashOf, List.take_append_of_le_length (by rw [List.length_drop, List.length_take]; omega), List.take_of_length_le (by rw [List.length_drop, List.length_take]; omega)]
  have h9 : l.take 9 = (l.take 13).take 9 := by rw [List.take_take]; congr 1
  unfold header
  rw [hr, h9]
  by_cases he : (l.take 13).take 9 = 66 :: (be 4 b ++ be 4 h)
  · rw [decide_eq_true he, beq_iff_eq]
    conv => lhs; rw [← List.take_append_drop 9 (l.take 13), he]
    simp
  · rw [decide_eq_false he, beq_eq_false_iff_ne]
    intro hc
    refine he ?_
    rw [hc, ← List.cons_append, List.take_left' (by simp [be_length])]
end Pl

def digest (n : Int) (h : Nat) : Value := .agg #[.int .i64 n, .int .u8 ((h : Int) / 16777216), .int .u8 ((h : Int) / 65536 % 256), .int .u8 ((h : Int) / 256 % 256), .int .u8 ((h : Int) % 256)]

set_option maxHeartbeats 4000000 in
set_option maxRecDepth 1000000 in
theorem extends_any (old more : Int) (h g : Nat) (A : Option Addr) (cap : Nat) (l : List UInt8) (w : World) (hto : more ≤ 9223372036854775807) (hh : h < 4294967296) (hgg : g < 4294967296) (hb : BytesAt w A l) (hm : l.length ≤ 140737488351232) (hcp : l.length ≤ cap) :
    Calls Tryd.prog 54 #[digest old h, digest more g, .slice A l.length cap] w fun e w' => e = .returned (.bool (Pl.extends_ old h more g l)) ∧ Below w.heap.size w w' := by
  obtain ⟨w0, hw0⟩ : ∃ w0, (w.alloc (.cells (Value.int .i64 old :: hc h).toArray 76)).alloc (.cells (Value.int .i64 more :: hc g).toArray 76) = w0 := ⟨_, rfl⟩
  have B1 : Blk w0 w.heap.size 76 (Value.int .i64 old :: hc h) := by rw [← hw0]; exact (Blk.new _ _ _).alloc _
  have B2 : Blk w0 (w.heap.size + 1) 76 (Value.int .i64 more :: hc g) := by rw [← hw0]; exact Blk.newAt _ _ _ _ (by simp)
  have hbel : Below w.heap.size w w0 := by rw [← hw0]; exact ((Below.refl _ _).alloc (Nat.le_refl _) _).alloc (by simp) _
  have a0 := B1.cell 0
  have a1 := B1.cell 1
  have a2 := B1.cell 2
  have a3 := B1.cell 3
  have a4 := B1.cell 4
  have b0 := B2.cell 0
  have b1 := B2.cell 1
  have b2 := B2.cell 2
  have b3 := B2.cell 3
  have b4 := B2.cell 4
  simp only [hc, List.getElem?_cons_succ, List.getElem?_cons_zero] at a0 a1 a2 a3 a4 b0 b1 b2 b3 b4
  have HB1 := Lib.hid B1
  have HB2 := Lib.hid B2
  have HBEL := Lib.hid hbel
  have hne : ∀ w, (binOp .neq 73 (.agg #[.int .u8 ((h : Int) / 16777216), .int .u8 ((h : Int) / 65536 % 256), .int .u8 ((h : Int) / 256 % 256), .int .u8 ((h : Int) % 256)]) (.agg #[.int .u8 0, .int .u8 0, .int .u8 0, .int .u8 0])).run Tryd.prog w = .ok (.bool (!decide (h = 0))) w := run_neq_hash h 0 hh (by omega)
  have heq : ∀ x, x < 4294967296 → ∀ w, _ := fun x hx => run_eql_hash x g hx hgg
  have HEQ := Lib.hid heq
  have hx13 : (13 : Int) ≠ 0 := by omega
  simp only [hc] at hw0
  unfold digest
  clear B1 B2 hbel heq
  have hz0 : ∀ b : Bool, (!b) = !b := fun _ => rfl
  clear hz0
  go_enter Tryd.func54, Tryd.ntmps54
  go_upto_region 1 with fail
  go_cut [33] from 13 (fun s33 wx => s33 = .bool (decide (old < 0 ∨ (old = 0 ∧ h ≠ 0) ∨ more < old)) ∧ w0 = wx)
  case first =>
    by_cases h1 : old < 0
    · go_wp2_with fail
      go_meet
      case rel => exact ⟨by simp [h1], rfl⟩
    · by_cases h2 : old = 0
      · subst h2
        by_cases h3 : h = 0
        · rw [decide_eq_true h3] at hne
          have H3 := Lib.hid h3
          clear h3
          by_cases h4 : more < 0
          · go_wp2_with fail
            go_meet
            case rel => exact ⟨by simp [h4], rfl⟩
          · go_wp2_with fail
            go_meet
            case rel => exact ⟨by simp [h4, H3.out], rfl⟩
        · rw [decide_eq_false h3] at hne
          go_wp2_with fail
          go_meet
          case rel => exact ⟨by simp [h3], rfl⟩
      · have h5 : (old == 0) = false := by simp [h2]
        by_cases h4 : more < old
        · go_wp2_with fail
          go_meet
          case rel => exact ⟨by simp [h4], rfl⟩
        · go_wp2_with fail
          go_meet
          case rel => exact ⟨by simp [h1, h2, h4], rfl⟩
  case rest =>
  obtain ⟨rfl, rfl⟩ := hcut
  clear hne
  by_cases hbad : old < 0 ∨ (old = 0 ∧ h ≠ 0) ∨ more < old
  · rw [decide_eq_true hbad]
    have HBAD := Lib.hid hbad
    clear hbad
    go_wp2_with fail
    go_ret
    refine ⟨?_, HBEL.out⟩
    have := HBAD.out
    unfold Pl.extends_
    rw [if_pos (by rcases this with h | h | h <;> simp [h])]
    rfl
  rw [decide_eq_false hbad]
  have HGOOD := Lib.hid hbad
  have hg0 : ¬ old < 0 := fun h => hbad (.inl h)
  have hg1 : ¬ more < old := fun h => hbad (.inr (.inr h))
  clear hbad
  obtain ⟨m, hlm⟩ : ∃ m, l.length = m := ⟨_, rfl⟩
  obtain ⟨o, rfl⟩ : ∃ o : Nat, old = o := ⟨old.toNat, by omega⟩
  obtain ⟨t, rfl⟩ : ∃ t : Nat, more = t := ⟨more.toNat, by omega⟩
  obtain ⟨n, hn⟩ : ∃ n : Nat, t = o + n := ⟨t - o, by omega⟩
  have hsub : (t : Int) - (o : Int) = (n : Int) := by omega
  have hot : o + n ≤ 9223372036854775807 := by omega
  have HN := Lib.hid hn
  rw [hlm] at hm hcp ⊢
  have HLM := Lib.hid hlm
  obtain ⟨q, hq⟩ : ∃ q : Nat, m / 13 = q := ⟨_, rfl⟩
  have hq13 : (m : Int) / 13 = (q : Int) := by omega
  obtain ⟨r, hr⟩ : ∃ r : Nat, m % 13 = r := ⟨_, rfl⟩
  have hr13 : (m : Int) % 13 = (r : Int) := by omega
  have HQ := Lib.hid hq
  have HR := Lib.hid hr
  have hqn : q ≤ m := by omega
  clear hlm hn hq hr
  go_upto_if 33 with fail
  go_upto_region 3 with fail
  go_cut [48] from 34 (fun s48 wx => s48 = .bool (decide (r ≠ 0 ∨ q ≠ n)) ∧ w0 = wx)
  case first =>
    by_cases h1 : r = 0
    · subst h1
      by_cases h2 : q = n
      · subst h2
        have e2 : ((q : Int) != (q : Int)) = false := by simp
        go_wp2_with fail
        go_meet
        case rel => exact ⟨by simp, rfl⟩
      · have e2 : ((q : Int) != (n : Int)) = true := by simp; omega
        go_wp2_with fail
        go_meet
        case rel => exact ⟨by simp [h2], rfl⟩
    · have e1 : ((r : Int) != 0) = true := by simp; omega
      go_wp2_with fail
      go_meet
      case rel => exact ⟨by simp [h1], rfl⟩
  case rest =>
  obtain ⟨rfl, rfl⟩ := hcut
  clear hq13 hr13
  by_cases hbad : r ≠ 0 ∨ q ≠ n
  · rw [decide_eq_true hbad]
    have HBAD : Hid (m % 13 ≠ 0 ∨ ((m / 13 : Nat) : Int) ≠ (t : Int) - o) := by
      rw [Hid, HR.out, HQ.out, hsub]
      rcases hbad with h | h
      · exact .inl h
      · exact .inr (by omega)
    clear hbad
    go_wp2_with fail
    go_ret
    refine ⟨?_, HBEL.out⟩
    have := HBAD.out
    unfold Pl.extends_
    rw [HLM.out, if_pos (by rcases this with h | h
                            · exact .inr (.inr (.inr (.inl h)))
                            · exact .inr (.inr (.inr (.inr h))))]
    rfl
  rw [decide_eq_false hbad]
  have hmn : m = 13 * n := by
    have h1 := HR.out
    have h2 := HQ.out
    have h3 : r = 0 ∧ q = n := by
      constructor
      · by_cases h : r = 0
        · exact h
        · exact absurd (.inl h) hbad
      · by_cases h : q = n
        · exact h
        · exact absurd (.inr h) hbad
    omega
  have hext : Pl.extends_ (o : Int) h (t : Int) g l = (Pl.heads (o + 1) h l == some g) := by
    unfold Pl.extends_
    rw [HLM.out, if_neg, Int.toNat_natCast]
    have h1 := HGOOD.out
    have h2 := HR.out
    have h3 := HQ.out
    rintro (h4 | h4 | h4 | h4 | h4)
    · omega
    · exact h1 (.inr (.inl h4))
    · omega
    · omega
    · omega
  have HEXT := Lib.hid hext
  have HMN := Lib.hid hmn
  have hmn2 : 13 * n ≤ m := by omega
  clear hbad hmn hext
  obtain ⟨w1, hw1⟩ : ∃ w1, w0.alloc (.cells (hc h).toArray 73) = w1 := ⟨_, rfl⟩
  have hB7 : Blk w1 w0.heap.size 73 (hc h) := by rw [← hw1]; exact Blk.new _ _ _
  have hbel1 : Below w0.heap.size w0 w1 := by rw [← hw1]; exact (Below.refl _ _).alloc (Nat.le_refl _) _
  have x0 := (HB1.out.below hbel1 HB1.out.lt).cell 0
  have y0 := (HB2.out.below hbel1 HB2.out.lt).cell 0
  simp only [List.getElem?_cons_zero] at x0 y0
  obtain ⟨z, hz⟩ : ∃ z, w0.heap.size = z := ⟨_, rfl⟩
  have hz2 : w.heap.size ≤ z := by rw [← hz]; exact HBEL.out.size
  have hz3 : w.heap.size < z := by rw [← hz]; exact HB1.out.lt
  have hz4 : w.heap.size + 1 < z := by rw [← hz]; exact HB2.out.lt
  have HZ := Lib.hid hz
  rw [hz] at hB7 hbel1
  have HB7 := Lib.hid hB7
  have HBEL1 := Lib.hid hbel1
  have hb1' := Lib.hid (hb.keep HBEL.out)
  simp only [hc] at hw1
  clear hB7 hbel1 hb hw0
  go_wp2_with fail
  clear hw1
  go_loopw [8, 57] (fun u i wr => ∃ (k r x : Nat) (A' : Option Addr) (cap' : Nat), k ≤ n ∧ i = .int .i64 k ∧ u = .slice A' r cap' ∧ r ≤ cap' ∧ Hid (r + 13 * k = m) ∧ Hid (BytesAt w0 A' (l.drop (13 * k))) ∧ Hid (Blk wr z 73 (hc x)) ∧ x < 4294967296 ∧
      Hid (Below z w0 wr) ∧ Hid (Pl.heads (o + 1) h l = Pl.heads (o + 1 + k) x (l.drop (13 * k)))) (fun _ i _ => n - (intOf i).toNat)
  case atStart => exact ⟨0, m, h, A, cap, Nat.zero_le _, rfl, rfl, hcp, by simp [Hid], by simpa [Hid] using hb1'.out, HB7.out, hh, HBEL1.out, rfl⟩
  case round =>
    obtain ⟨k, r, x, A', cap', hk, rfl, rfl, hrc, HRK, HBY, HBX, hx, HBW, HHD⟩ := hrel
    have hrm : r ≤ m := by have := HRK.out; omega
    by_cases hkn : k < n
    · have hr13 : 13 ≤ r := by have := HRK.out; have := HMN.out; omega
      have hkn1 : (k : Int) < (n : Int) := by omega
      have d0 := (HB1.out.below HBW.out hz3).cell 0
      have c7 := HBX.out
      simp only [List.getElem?_cons_zero] at d0
      obtain ⟨b, hbe⟩ : ∃ b : Nat, (o : Int) + 1 + k = b := ⟨o + 1 + k, by omega⟩
      have HBE := Lib.hid (show b = o + 1 + k by omega)
      have hb0 : ¬ (b : Int) < 1 := by omega
      have hb0d : decide ((b : Int) < 1) = false := decide_eq_false hb0
      obtain ⟨L, hL⟩ : ∃ L, l.drop (13 * k) = L := ⟨_, rfl⟩
      have hLr : L.length = r := by rw [← hL, List.length_drop, HLM.out]; have := HRK.out; omega
      have HL := Lib.hid hL
      rw [hL] at HBY HHD
      have hcut := HBY.out.cut 13 cap' (by omega) (by omega)
      obtain ⟨A2, hA2⟩ : ∃ A2, (if cap' = 13 then A' else A'.map (·.add 13)) = A2 := ⟨_, rfl⟩
      have hsl := fun w => run_slice_from w A' r cap' 13 13 rfl hr13
      rw [hA2] at hcut hsl
      have HCUT := Lib.hid hcut
      have hx13 : (13 : Int) ≤ (cap' : Int) := by omega
      have hlen13 : (L.take 13).length = 13 := by rw [List.length_take]; omega
      have h13 : BytesAt w0 A' (L.take 13) := HBY.out.head 13
      have h9 := h13.cut 9 13 (by omega) (by omega)
      rw [if_neg (by decide)] at h9
      have hlen9 : ((L.take 13).drop 9).length = 4 := by rw [List.length_drop, hlen13]
      have H13 := Lib.hid h13
      have H9 := Lib.hid h9
      have hB9 := Lib.hid (Blk.hash0 wr)
      have hhe := Lib.hid (Pl.header_eq b x L (by omega))
      have hy := hc_hashOf ((L.take 13).drop 9)
      rw [hlen9] at hy
      obtain ⟨y, hyy⟩ : ∃ y, Pl.hashOf ((L.take 13).drop 9) = y := ⟨_, rfl⟩
      have hylt : y < 4294967296 := by rw [← hyy]; exact Pl.hashOf_lt _
      rw [hyy] at hy hhe
      have HY := Lib.hid hy
      have HLR := Lib.hid hLr
      have HL13 := Lib.hid hlen13
      have HL9 := Lib.hid hlen9
      have HA2 := Lib.hid hA2
      have hzr : z ≤ wr.heap.size := Nat.le_trans (by rw [← HZ.out]; exact Nat.le_refl _) HBW.out.size
      have hzr2 : z < wr.heap.size := HBX.out.lt
      have hBW0 : Below w0.heap.size w0 wr := by rw [HZ.out]; exact HBW.out
      have hs0 : w0.heap.size ≤ wr.heap.size := hBW0.size
      have HS9 := Lib.hid (H9.out.keep ((hBW0.alloc hs0 (.cells #[.int .u8 0, .int .u8 0, .int .u8 0, .int .u8 0] 73)).drew))
      have HBX1 := Lib.hid (HBX.out.alloc (.cells #[.int .u8 0, .int .u8 0, .int .u8 0, .int .u8 0] 73))
      have HBW1 := Lib.hid ((HBW.out.alloc hzr (.cells #[.int .u8 0, .int .u8 0, .int .u8 0, .int .u8 0] 73)).drew)
      have hfin : ∀ (w' : World), Below z w0 w' → Below w.heap.size w w' := fun w' h => HBEL.out.trans (h.mono (Nat.le_of_lt hz3))
      have HFIN := Lib.hid hfin
      clear hcut h13 h9 hy hyy hLr hlen13 hlen9 hA2 c7 hL hBW0 hs0 hfin
      go_wp2_with fail
      go_region_held3 (fun _ => True) (trivial) (first
        | (refine step_copy_bytes rfl (.tmp 69) (.tmp 71) 23 23 rfl 5 wr.heap.size 0 4 4 4 4 4 (A'.map (fun p => p.add 9)) ((L.take 13).drop 9) [.int .u8 0, .int .u8 0, .int .u8 0, .int .u8 0] 73 Tryd.underlying23 Tryd.sizeByte2 rfl rfl hB9.out (by exact HS9.out) HL9.out rfl (by simp) ?_
           intro w2 hbk hg2
           rw [List.take_zero, List.nil_append, show bv (((L.take 13).drop 9).take 4) ++ List.drop (0 + 4) [Value.int .u8 0, .int .u8 0, .int .u8 0, .int .u8 0] = hc y from HY.out] at hbk
           have hbx2 := Blk.grown (show Blk _ z 73 (hc x) from HBX1.out.drew) hg2 (by simp; omega)
           have HBW2 := Lib.hid (HBW1.out.grown hg2 (Nat.le_trans hzr (by simp)) (fun g hg => by cases hg; exact hzr))
           obtain ⟨c0, c1, c2, c3, f0, f1, f2, f3⟩ := facts4 hbk
           obtain ⟨e0, e1, e2, e3, g0, g1, g2, g3⟩ := facts4 hbx2
           have HBX2 := Lib.hid hbx2
           clear hbk hbx2 hg2)
        | fail)
      go_upto_region 14 with fail
      go_cut [57, 87] from 57 to 90 (fun s57 s87 wx => s57 = .int .i64 (k : Int) ∧ ∃ bb : Bool, s87 = .bool bb ∧ Hid (bb = !decide (b < 4294967296 ∧ L.take 9 = 66 :: (Pl.be 4 b ++ Pl.be 4 x))) ∧ Hid (Blk wx z 73 (hc x)) ∧ Hid (Below z w0 wx))
      case first =>
        by_cases hb32 : b < 4294967296
        · have hb33 : ¬ (4294967296 : Int) ≤ (b : Int) := by omega
          go_wp2_with fail
          refine (header_any b x y w2 hb32 hx hylt).mono ?_
          rintro e w3 ⟨A3, cap3, rfl, hb3, hbel3⟩
          have HB3 := Lib.hid hb3
          have HBX3 := Lib.hid (HBX2.out.below hbel3 HBX2.out.lt)
          have HBW3 := Lib.hid (HBW2.out.trans (hbel3.mono (Nat.le_of_lt HBX2.out.lt)))
          clear hbel3 hb3
          go_wp2_with fail
          have hBE := bytesEqual_any A' A3 (L.take 13) (Pl.header b x y) 13 cap3 w3 (H13.out.keep (by rw [HZ.out]; exact HBW3.out)) HB3.out
          rw [HL13.out, Pl.header_length, hhe.out] at hBE
          refine hBE.mono ?_
          rintro e w' ⟨rfl, rfl⟩
          clear hBE
          obtain ⟨bb, hbb⟩ : ∃ bb, decide (L.take 9 = 66 :: (Pl.be 4 b ++ Pl.be 4 x)) = bb := ⟨_, rfl⟩
          rw [hbb]
          have HBB := Lib.hid hbb
          clear hbb
          cases bb with
          | true =>
            go_wp2_with fail
            go_meet
            case rel => exact ⟨rfl, false, rfl, by have := HBB.out; simp at this; simp [Hid, hb32, this], HBX3.out, HBW3.out⟩
          | false =>
            go_wp2_with fail
            go_meet
            case rel => exact ⟨rfl, true, rfl, by have := HBB.out; simp at this; simp [Hid, this], HBX3.out, HBW3.out⟩
        · have hb33 : (4294967296 : Int) ≤ (b : Int) := by omega
          go_wp2_with fail
          go_meet
          case rel => exact ⟨rfl, true, rfl, by simp [Hid, hb32], HBX2.out, HBW2.out⟩
      case rest =>
      obtain ⟨rfl, bb, rfl, HBB, HBXc, HBWc⟩ := hcut
      cases bb with
      | true =>
        go_wp2_with fail
        go_ret
        refine ⟨?_, HFIN.out _ HBWc.out⟩
        have h1 := HEXT.out
        have h2 := HHD.out
        have h3 := HBB.out
        rw [Pl.heads_bad (o + 1 + k) x L (by have := HLR.out; omega) (fun h => by rw [← HBE.out] at h; rw [decide_eq_true h] at h3; cases h3)] at h2
        rw [h1, h2]
        rfl
      | false =>
        obtain ⟨c0, c1, c2, c3, f0, f1, f2, f3⟩ := facts4 HBXc.out
        go_wp2_with fail
        have hH := chainHash_any A' 13 (L.take 13) wc (H13.out.keep (by rw [HZ.out]; exact HBWc.out)) (by rw [HL13.out]; omega)
        rw [HL13.out] at hH
        refine hH.mono ?_
        rintro e w4 ⟨rfl, hbel4⟩
        clear hH
        have HBX4 := Lib.hid (HBXc.out.below hbel4 HBXc.out.lt)
        have HBW4 := Lib.hid (HBWc.out.trans (hbel4.mono (Nat.le_of_lt HBXc.out.lt)))
        obtain ⟨c0, c1, c2, c3, f0, f1, f2, f3⟩ := facts4 HBX4.out
        clear hbel4
        obtain ⟨x2, hx2⟩ : ∃ x2, Pl.sumN (L.take 13) = x2 := ⟨_, rfl⟩
        have hx2lt : x2 < 4294967296 := by rw [← hx2]; exact Nat.lt_trans (Pl.sumN_lt _) (by decide)
        have HX2 := Lib.hid hx2
        rw [hx2]
        clear hx2
        unfold hashVal
        go_wp2_with fail
        have h3 : b < 4294967296 ∧ L.take 9 = 66 :: (Pl.be 4 b ++ Pl.be 4 x) := by
          have := HBB.out
          simpa using this
        have hLn : l.drop (13 * (k + 1)) = L.drop 13 := by rw [← HL.out, List.drop_drop]; congr 1
        have hhd : Pl.heads (o + 1) h l = Pl.heads (o + 1 + (k + 1)) x2 (l.drop (13 * (k + 1))) := by
          rw [HHD.out, hLn, Pl.heads_go (o + 1 + k) x L (by have := HLR.out; omega) (by rw [← HBE.out]; exact h3.1) (by rw [← HBE.out]; exact h3.2), HX2.out]
          congr 1
        refine ⟨⟨k + 1, r - 13, x2, A2, cap' - 13, by omega, rfl, rfl, by omega, ?_, ?_, ?_, hx2lt, ?_, hhd⟩, ?_⟩
        · have := HRK.out
          rw [Hid]
          omega
        · rw [hLn]; exact HCUT.out
        · exact HBX4.out.set4 _ _ _ _
        · exact below_set4 HBW4.out (Nat.le_refl _) _ _ _ _
        · simp [intOf]; omega
    · obtain rfl : k = n := by omega
      have hr0 : r = 0 := by have := HRK.out; have := HMN.out; omega
      have e1 := (HB2.out.below HBW.out hz4).cell 1
      have e2 := (HB2.out.below HBW.out hz4).cell 2
      have e3 := (HB2.out.below HBW.out hz4).cell 3
      have e4 := (HB2.out.below HBW.out hz4).cell 4
      simp only [hc, List.getElem?_cons_succ, List.getElem?_cons_zero] at e1 e2 e3 e4
      obtain ⟨c0, c1, c2, c3, f0, f1, f2, f3⟩ := facts4 HBX.out
      have heqx := HEQ.out x hx
      unfold hashVal at heqx
      have hfin : Below w.heap.size w wr := HBEL.out.trans (HBW.out.mono (Nat.le_of_lt hz3))
      have HFIN := Lib.hid hfin
      clear hfin
      go_wp2_with fail
      go_ret
      refine ⟨?_, HFIN.out⟩
      have h1 := HEXT.out
      have h2 := HHD.out
      rw [Pl.heads_short (o + 1 + k) x (l.drop (13 * k)) (by rw [List.length_drop, HLM.out]; have := HMN.out; omega)] at h2
      rw [h1, h2]
      by_cases hxg : x = g
      · simp [hxg]
      · simp [hxg]
end Go.Proofs.YtljmklohgpaopaaDoor

namespace Go.Proofs.YtljmklohgpaopaaDoor
open Go.RowKit

theorem num_st {o : Option Pl.Ev} {f : List UInt8 → List UInt8 → Option Pl.Ev} (g n : Nat) (l : List UInt8) (bad : Bool) (w : World) (h : Rdr w g l bad) (hn : n ≤ 7) (hs : Pl.St o bad (Pl.bt n l f)) :
    Calls Tryd.prog 81 #[.pointer (some ⟨g, 0, none⟩), .int .i64 n] w fun e w' => ∃ t l' bad', e = .returned (.int .i64 (Pl.num t : Nat)) ∧ Pl.num t < 256 ^ n ∧ Rdr w' g l' bad' ∧ w.grownBy w' (some g) ∧ Pl.St o bad' (f t l') := by
  refine (num_any g n l bad w h hn).mono ?_
  rintro e w' ⟨rfl, h1, h2⟩
  exact ⟨_, _, _, rfl, Pl.num_take_lt l n, h1, h2, hs.take⟩
theorem take_st {o : Option Pl.Ev} {f : List UInt8 → List UInt8 → Option Pl.Ev} (g n : Nat) (l : List UInt8) (bad : Bool) (w : World) (h : Rdr w g l bad) (hn : n ≤ 9223372036854775807) (hs : Pl.St o bad (Pl.bt n l f)) :
    Calls Tryd.prog 83 #[.pointer (some ⟨g, 0, none⟩), .int .i64 n] w fun e w' => ∃ A t l' bad', e = .returned (.slice A t.length t.length) ∧ BytesAt w' A t ∧ (∀ p, A = some p → p.block < g) ∧ t.length ≤ n ∧ Rdr w' g l' bad' ∧ w.grownBy w' (some g) ∧ Pl.St o bad' (f t l') := by
  refine (take_any g n l bad w h hn).mono ?_
  rintro e w' ⟨A, rfl, h1, h2, h3, h4⟩
  exact ⟨A, _, _, _, rfl, h1, h2, List.length_take_le _ _, h3, h4, hs.take⟩
theorem hash_st {o : Option Pl.Ev} {f : List UInt8 → List UInt8 → Option Pl.Ev} (g : Nat) (l : List UInt8) (bad : Bool) (w : World) (h : Rdr w g l bad) (hs : Pl.St o bad (Pl.bt 4 l f)) :
    Calls Tryd.prog 85 #[.pointer (some ⟨g, 0, none⟩)] w fun e w' => ∃ x t l' bad', e = .returned (hashVal x) ∧ x < 4294967296 ∧ (t.length = 4 → x = Pl.num t) ∧ Rdr w' g l' bad' ∧ w.grownBy w' (some g) ∧ Pl.St o bad' (f t l') ∧ (bad' = false → bad = false) := by
  refine (hashRd_any g l bad w h).mono ?_
  rintro e w' ⟨rfl, h1, h2⟩
  exact ⟨_, _, _, _, rfl, Pl.hashOf_lt _, fun ht => Pl.hashOf_four _ ht, h1, h2, hs.take, fun h => by cases bad <;> simp_all⟩
theorem hashes_st {o : Option Pl.Ev} {f : List UInt8 → List UInt8 → Option Pl.Ev} (g : Nat) (l : List UInt8) (bad : Bool) (w : World) (h : Rdr w g l bad) (hs : Pl.St o bad (Pl.bt 1 l fun k l => Pl.bt (4 * Pl.num k) l f)) :
    Calls Tryd.prog 84 #[.pointer (some ⟨g, 0, none⟩)] w fun e w' => ∃ P cp ps t l' bad', e = .returned (.slice P ps.length cp) ∧ ps.length ≤ cp ∧ Src w' P (hcs ps) ∧ (∀ p, P = some p → w.heap.size ≤ p.block) ∧ (∀ x ∈ ps, x < 4294967296) ∧ Rdr w' g l' bad' ∧ w.grownBy w' (some g) ∧ Pl.St o bad' (f t l') ∧ (bad' = false → ps = Pl.groups t) ∧ (bad' = false → bad = false) := by
  refine (hashes_any g l bad w h).mono ?_
  rintro e w' ⟨v, ps, l', bad', rfl, h1, h2, h3, h4, h5⟩
  obtain ⟨P, cp, rfl, k1, k2, k3⟩ := own_src h1
  obtain ⟨t, k4, k5⟩ := h5.st hs
  exact ⟨P, cp, ps, t, l', bad', rfl, k1, k2, fun p hp => (h1.lt _ (k3 p hp)).1, h2, h3, h4, k4, k5, fun h => by
    rcases h5 with ⟨h6, _⟩ | ⟨_, h6, _⟩
    · rw [h] at h6; cases h6
    · exact h6⟩

/-- What Climb answers, in one. -/
theorem climb_either (l : List UInt8) (i m : Nat) (ps : List Nat) (hl : l.length ≤ 140737488351232) (hm : m ≤ 4096) (hx : ∀ x ∈ ps, x < 4294967296) : ∃ (r : Nat) (ok : Bool), r < 4294967296 ∧
    (∀ W A P cap cp, BytesAt W A l → Src W P (hcs ps) → ps.length ≤ cp → Calls Tryd.prog 86 #[.slice A l.length cap, .int .i64 i, .int .i64 m, .slice P ps.length cp] W fun e w' => e = .returned (.tuple #[hashVal r, if ok then .nilIface else .iface 25 (.int .i64 9)]) ∧ Below W.heap.size W w') ∧
    (ok = true → i < m ∧ ps.length = Pl.depth i m ∧ r = Pl.climb l i m ps) ∧ (ok = false → ¬ (i < m ∧ ps.length = Pl.depth i m)) := by
  by_cases h1 : i < m
  · by_cases h2 : ps.length = Pl.depth i m
    · exact ⟨_, true, Nat.lt_trans (Pl.climb_lt l i m ps) (by decide), fun W A P cap cp hb hs hc => climbE_good l A P cap cp i m ps W hl h1 hm h2 hx hb hs hc, fun _ => ⟨h1, h2, rfl⟩, fun h => by cases h⟩
    · exact ⟨0, false, by decide, fun W A P cap cp hb hs hc => climbE_len A P _ cap ps.length cp i m W h1 hm h2, fun h => (by cases h), fun _ h => h2 h.2⟩
  · exact ⟨0, false, by decide, fun W A P cap cp hb hs hc => climbE_num A P _ cap ps.length cp i m W (.inr (.inr (.inr (by omega)))), fun h => (by cases h), fun _ h => h1 h.1⟩
end Go.Proofs.YtljmklohgpaopaaDoor
