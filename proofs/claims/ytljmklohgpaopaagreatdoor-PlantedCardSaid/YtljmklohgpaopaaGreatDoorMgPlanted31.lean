/- The harness over a tree: opened; saved. The harness over a tree: Take. -/
import Derived.Test.YtljmklohgpaopaaGreatDoorMgPlanted30
set_option linter.unusedVariables false
set_option linter.unusedSimpArgs false

namespace Go.Proofs.YtljmklohgpaopaaGreatDoor
open Go.RowKit
set_option linter.unusedSectionVars false
variable [Inhabited LoT]

set_option maxHeartbeats 4000000 in
set_option maxRecDepth 100000 in
theorem pact_opens (gx n k i : Nat) (s : ByteArray) (w : World) (hi : i < s.size) (hss : s.size ≤ 4096) (h : PSt k gx n w) (hn : 16 ≤ n ∧ n ≤ 4096) (hk : k ≤ 4100) (hev : EvAt w) (hge : GE w) (hlo : LO ≤ w.heap.size) (hgx : LO ≤ gx) (hc : s[i].toNat % 6 = 5) :
    Calls Tryz.prog 31 #[.pointer (some ⟨gx, 0, none⟩), .string s, .int .i64 (i : Nat)] w (PAct k gx n w) := by
  obtain ⟨g, gT, vn, vs, vx, vD, d, rd, b, now, safe, next, sv, hm, hp, hsv, l1, l2, l3⟩ := h
  obtain ⟨c, hcc⟩ : ∃ c, s[i] = c := ⟨_, rfl⟩
  rw [hcc] at hc
  obtain ⟨q, hq1, hq2⟩ : ∃ q : Nat, q ≤ 42 ∧ ((c.toNat : Nat) : Int).tdiv 6 = (q : Int) := ⟨c.toNat / 6, by have := c.toNat_lt; omega, by rw [Int.tdiv_eq_ediv_of_nonneg (by omega)]; omega⟩
  have hr : ((c.toNat : Nat) : Int).tmod 6 = 5 := by rw [Int.tmod_eq_emod_of_nonneg (by omega)]; omega
  obtain ⟨m, hm1, hm2⟩ : ∃ m : Nat, m ≤ 12 ∧ (q : Int).tmod 13 = (m : Int) := ⟨q % 13, by omega, by rw [Int.tmod_eq_emod_of_nonneg (by omega)]; omega⟩
  obtain ⟨j, hj1, hj2⟩ : ∃ j : Nat, j < s.size ∧ ((i : Int) + 1).tmod (s.size : Int) = (j : Int) := ⟨(i + 1) % s.size, Nat.mod_lt _ (by omega), by rw [Int.tmod_eq_emod_of_nonneg (by omega)]; simp⟩
  obtain ⟨c2, hc2⟩ : ∃ c, s[j] = c := ⟨_, rfl⟩
  have hi2 : (i : Int) < (s.size : Int) := by omega
  have hj3 : (j : Int) < (s.size : Int) := by omega
  have hs0 : ¬ (s.size : Int) = 0 := by omega
  have hs1 : ((s.size : Int) == 0) = false := by simpa using hs0
  obtain ⟨L, hL⟩ : ∃ L, [UInt8.ofNat (97 + m), c2] = L := ⟨_, rfl⟩
  obtain ⟨key, hkey⟩ : ∃ key : Pl.Key, [107, 101, 121] ++ L = key := ⟨_, rfl⟩
  have hl2 : L.length = 2 := by rw [← hL]; rfl
  have hkl : key.length = 5 := by rw [← hkey, List.length_append, hl2]; rfl
  have hkf : Pl.KeyFit key := ⟨by omega, by omega⟩
  obtain ⟨w1, hw1⟩ : ∃ x, w.alloc (.cells #[.int .u8 (97 + (m : Int)), .int .u8 ((c2.toNat : Nat) : Int)] 5) = x := ⟨_, rfl⟩
  have hb1 : Below w.heap.size w w1 := by rw [← hw1]; exact (Below.refl _ _).alloc (Nat.le_refl _) _
  have hB : BytesAt w1 (some ⟨w.heap.size, 0, none⟩) L := by
    have h1 : Blk w1 w.heap.size 5 [.int .u8 (97 + (m : Int)), .int .u8 ((c2.toNat : Nat) : Int)] := by rw [← hw1]; exact Blk.new w 5 _
    rw [show (97 + (m : Int)) = (((UInt8.ofNat (97 + m)).toNat : Nat) : Int) by rw [UInt8.toNat_ofNat']; omega] at h1
    have h2 := Src.of_blk h1
    rw [← hL]
    exact h2.bytes
  have hcv := run_tostr w1 (some ⟨w.heap.size, 0, none⟩) L 2 hB
  rw [hl2] at hcv
  have hsz := tstr_size L
  rw [hl2] at hsz
  have hcat : (⟨#[107, 101, 121]⟩ ++ tstr L : ByteArray) = tstr key := by rw [← hkey]; simp [tstr, ByteArray.ext_iff]
  obtain ⟨sx, hsx⟩ : ∃ x, tstr L = x := ⟨_, rfl⟩
  rw [hsx] at hcv hsz hcat
  have hkz : (tstr key).size = 5 := by rw [tstr_size, hkl]
  obtain ⟨sk, hsk⟩ : ∃ x, tstr key = x := ⟨_, rfl⟩
  rw [hsk] at hcat hkz
  have hmw : IntKind.u8.wrap (97 + (m : Int)) = 97 + (m : Int) := IntWalk.u8_in _ (by omega)
  have HSK := Lib.hid hsk
  have HKF := Lib.hid (And.intro hkf hkl)
  have HB1 := Lib.hid hb1
  have HM1 := Lib.hid (hm.below hb1)
  have HP1 := Lib.hid (hp.below hb1)
  have HSV := Lib.hid hsv
  have HLN := Lib.hid (And.intro l1 (And.intro l2 l3))
  have HEG : Hid (EvAt w1 ∧ GE w1) := ⟨(Gk.of_below hb1).1 hev, (Gk.of_below hb1).2.1 hge⟩
  have HLO := Lib.hid (And.intro hlo hgx)
  have HG1 := Lib.hid (Gk.of_below hb1)
  obtain ⟨x0, x1, x2, x3, x4, x5, x6, x7, xf⟩ := facts8 (hm.below hb1).blk
  clear hL hkey hl2 hkl hkf hB hsx hsk hb1 hm hp hsv l1 l2 l3 hev hge hlo hgx
  have HRA := Lib.hid (raws_any s (i + 1) w1 (by omega) hss)
  rw [show (((i + 1 : Nat) : Nat) : Int) = (i : Int) + 1 by push_cast; rfl] at HRA
  obtain ⟨y, hy1, hy2⟩ : ∃ y : Nat, y ≤ 2 ∧ (q : Int).tmod 3 = (y : Int) := ⟨q % 3, by omega, by rw [Int.tmod_eq_emod_of_nonneg (by omega)]; omega⟩
  by_cases hy : y = 0
  · subst hy
    go_enter Tryz.func31, Tryz.ntmps31
    go_wp2_with fail
    refine HRA.out.mono ?_
    rintro e w2 ⟨A, cap, rfl, hown, hb2⟩
    have HM2 := Lib.hid (HM1.out.below hb2)
    obtain ⟨A', cap', he, _, hsrc, hob⟩ := own_src hown
    injection he with e1 e2 e3
    subst e1
    have hg2 : Gk w w2 := HG1.out.trans (Gk.of_below hb2)
    have HOP := Lib.hid (popens_any (rawOf s (i + 1)) A cap HM2.out (HP1.out.below hb2) HSV.out hn (by have := HLN.out; omega) (by have := HLN.out; omega) (rawOf_raw s _) (by rw [rawOf_length]; omega) hsrc
      (fun p hp => by
        obtain ⟨h1, h2⟩ := hown.lt _ (hob p hp)
        exact ⟨fun hf => by have := HP1.out.disk.lt _ hf; omega, h2⟩) ((Gk.of_below hb2).1 HEG.out.1) ((Gk.of_below hb2).2.1 HEG.out.2) (Nat.le_trans HLO.out.1 hg2.2.2.size) HLO.out.2)
    have HG2 := Lib.hid hg2
    clear hown hb2 hsrc hob hg2 e2 e3
    go_wp2_with fail
    refine HOP.out.mono ?_
    rintro e w3 ⟨rfl, g', gT', vD', vn', vs', d', rd', l, hm3, hp3, hl, hg3⟩
    have HM3 := Lib.hid hm3
    have HP3 := Lib.hid hp3
    have HL3 := Lib.hid hl
    have HG3 := Lib.hid hg3
    clear hm3 hp3 hl hg3
    go_wp2_with fail
    go_ret
    have hll : l.length ≤ k := by have h1 := HLN.out; rcases HL3.out with rfl | rfl <;> omega
    exact ⟨rfl, ⟨g', gT', vn', vs', vx, vD', d', rd', false, l, l, next, false, HM3.out, HP3.out.later (Nat.le_succ k), fun _ => rfl, by omega, by omega, by have := HLN.out; omega⟩, HG2.out.trans HG3.out⟩
  · skip
    have hye : ((y : Int) == 0) = false := by simpa using hy
    have hye2 : ¬ (y : Int) = 0 := by omega
    go_enter Tryz.func31, Tryz.ntmps31
    go_wp2_with fail
    go_ret
    exact ⟨rfl, ⟨g, gT, vn, vs, vx, vD, d, rd, b, now, safe, next, sv, HM1.out, HP1.out.later (Nat.le_succ k), HSV.out, by have := HLN.out; omega, by have := HLN.out; omega, by have := HLN.out; omega⟩, HG1.out⟩
set_option maxHeartbeats 4000000 in
set_option maxRecDepth 100000 in
theorem pact_save (gx n k i : Nat) (s : ByteArray) (w : World) (hi : i < s.size) (hss : s.size ≤ 4096) (h : PSt k gx n w) (hn : 16 ≤ n ∧ n ≤ 4096) (hk : k ≤ 4100) (hev : EvAt w) (hge : GE w) (hlo : LO ≤ w.heap.size) (hgx : LO ≤ gx) (hc : s[i].toNat % 6 = 3) :
    Calls Tryz.prog 31 #[.pointer (some ⟨gx, 0, none⟩), .string s, .int .i64 (i : Nat)] w (PAct k gx n w) := by
  obtain ⟨g, gT, vn, vs, vx, vD, d, rd, b, now, safe, next, sv, hm, hp, hsv, l1, l2, l3⟩ := h
  obtain ⟨c, hcc⟩ : ∃ c, s[i] = c := ⟨_, rfl⟩
  rw [hcc] at hc
  obtain ⟨q, hq1, hq2⟩ : ∃ q : Nat, q ≤ 42 ∧ ((c.toNat : Nat) : Int).tdiv 6 = (q : Int) := ⟨c.toNat / 6, by have := c.toNat_lt; omega, by rw [Int.tdiv_eq_ediv_of_nonneg (by omega)]; omega⟩
  have hr : ((c.toNat : Nat) : Int).tmod 6 = 3 := by rw [Int.tmod_eq_emod_of_nonneg (by omega)]; omega
  obtain ⟨m, hm1, hm2⟩ : ∃ m : Nat, m ≤ 12 ∧ (q : Int).tmod 13 = (m : Int) := ⟨q % 13, by omega, by rw [Int.tmod_eq_emod_of_nonneg (by omega)]; omega⟩
  obtain ⟨j, hj1, hj2⟩ : ∃ j : Nat, j < s.size ∧ ((i : Int) + 1).tmod (s.size : Int) = (j : Int) := ⟨(i + 1) % s.size, Nat.mod_lt _ (by omega), by rw [Int.tmod_eq_emod_of_nonneg (by omega)]; simp⟩
  obtain ⟨c2, hc2⟩ : ∃ c, s[j] = c := ⟨_, rfl⟩
  have hi2 : (i : Int) < (s.size : Int) := by omega
  have hj3 : (j : Int) < (s.size : Int) := by omega
  have hs0 : ¬ (s.size : Int) = 0 := by omega
  have hs1 : ((s.size : Int) == 0) = false := by simpa using hs0
  obtain ⟨L, hL⟩ : ∃ L, [UInt8.ofNat (97 + m), c2] = L := ⟨_, rfl⟩
  obtain ⟨key, hkey⟩ : ∃ key : Pl.Key, [107, 101, 121] ++ L = key := ⟨_, rfl⟩
  have hl2 : L.length = 2 := by rw [← hL]; rfl
  have hkl : key.length = 5 := by rw [← hkey, List.length_append, hl2]; rfl
  have hkf : Pl.KeyFit key := ⟨by omega, by omega⟩
  obtain ⟨w1, hw1⟩ : ∃ x, w.alloc (.cells #[.int .u8 (97 + (m : Int)), .int .u8 ((c2.toNat : Nat) : Int)] 5) = x := ⟨_, rfl⟩
  have hb1 : Below w.heap.size w w1 := by rw [← hw1]; exact (Below.refl _ _).alloc (Nat.le_refl _) _
  have hB : BytesAt w1 (some ⟨w.heap.size, 0, none⟩) L := by
    have h1 : Blk w1 w.heap.size 5 [.int .u8 (97 + (m : Int)), .int .u8 ((c2.toNat : Nat) : Int)] := by rw [← hw1]; exact Blk.new w 5 _
    rw [show (97 + (m : Int)) = (((UInt8.ofNat (97 + m)).toNat : Nat) : Int) by rw [UInt8.toNat_ofNat']; omega] at h1
    have h2 := Src.of_blk h1
    rw [← hL]
    exact h2.bytes
  have hcv := run_tostr w1 (some ⟨w.heap.size, 0, none⟩) L 2 hB
  rw [hl2] at hcv
  have hsz := tstr_size L
  rw [hl2] at hsz
  have hcat : (⟨#[107, 101, 121]⟩ ++ tstr L : ByteArray) = tstr key := by rw [← hkey]; simp [tstr, ByteArray.ext_iff]
  obtain ⟨sx, hsx⟩ : ∃ x, tstr L = x := ⟨_, rfl⟩
  rw [hsx] at hcv hsz hcat
  have hkz : (tstr key).size = 5 := by rw [tstr_size, hkl]
  obtain ⟨sk, hsk⟩ : ∃ x, tstr key = x := ⟨_, rfl⟩
  rw [hsk] at hcat hkz
  have hmw : IntKind.u8.wrap (97 + (m : Int)) = 97 + (m : Int) := IntWalk.u8_in _ (by omega)
  have HSK := Lib.hid hsk
  have HKF := Lib.hid (And.intro hkf hkl)
  have HB1 := Lib.hid hb1
  have HM1 := Lib.hid (hm.below hb1)
  have HP1 := Lib.hid (hp.below hb1)
  have HSV := Lib.hid hsv
  have HLN := Lib.hid (And.intro l1 (And.intro l2 l3))
  have HEG : Hid (EvAt w1 ∧ GE w1) := ⟨(Gk.of_below hb1).1 hev, (Gk.of_below hb1).2.1 hge⟩
  have HLO := Lib.hid (And.intro hlo hgx)
  have HG1 := Lib.hid (Gk.of_below hb1)
  obtain ⟨x0, x1, x2, x3, x4, x5, x6, x7, xf⟩ := facts8 (hm.below hb1).blk
  clear hL hkey hl2 hkl hkf hB hsx hsk hb1 hm hp hsv l1 l2 l3 hev hge hlo hgx
  have HSA := Lib.hid (pt_save HP1.out hn (by omega) (by have := HLN.out; omega) (by have := HLN.out; omega) HEG.out.1 HEG.out.2)
  obtain ⟨An, capn, rfl, _⟩ := id HM1.out.kn
  go_enter Tryz.func31, Tryz.ntmps31
  go_wp2_with fail
  refine HSA.out.mono ?_
  rintro e w2 ⟨kd, tb', d2, rd2, rfl, hfr2, hor⟩
  have HM2 := Lib.hid (HM1.out.hfr hfr2)
  have HG2 : Hid (Gk w w2) := HG1.out.trans hfr2.gk
  clear hfr2
  rcases hor with ⟨rfl, rfl, hp2⟩ | ⟨rfl, rfl, hp2⟩ | ⟨rfl, rfl, hp2⟩
  · have HP2 := Lib.hid hp2
    clear hp2
    obtain ⟨w3, hw3⟩ : ∃ x, w2.alloc (.cells #[.int .i64 0, .string ⟨#[]⟩, .bool true] 28) = x := ⟨_, rfl⟩
    have hb3 : Below w2.heap.size w2 w3 := by rw [← hw3]; exact (Below.refl _ _).alloc (Nat.le_refl _) _
    obtain ⟨be, hbe⟩ : ∃ x, w2.heap.size = x := ⟨_, rfl⟩
    have Bbe : Blk w3 be 28 [.int .i64 0, .string ⟨#[]⟩, .bool true] := by rw [← hw3, ← hbe]; exact Blk.new w2 28 _
    have HM3 := Lib.hid (HM2.out.below hb3)
    have HP3 := Lib.hid (HP2.out.below hb3)
    have HG3 : Hid (Gk w w3) := HG2.out.trans (Gk.of_below hb3)
    have HBE := Lib.hid Bbe
    obtain ⟨z0, z1, z2, _, _, _⟩ := facts3 Bbe
    have q3 := fine_any 0 w3
    unfold errA at q3
    have Q3 := Lib.hid q3
    clear x0 x1 x2 x3 x4 x5 x6 x7 xf q3 Bbe hb3
    unfold errA
    go_wp2_with fail
    refine Q3.out.mono ?_
    rintro e w4 ⟨rfl, hb4⟩
    have HM4 := Lib.hid (HM3.out.below hb4)
    have HP4 := Lib.hid (HP3.out.below hb4)
    have HG4 : Hid (Gk w w4) := HG3.out.trans (Gk.of_below hb4)
    have HBE4 := Lib.hid (HBE.out.below hb4 HBE.out.lt)
    clear z0 z1 z2 hb4
    obtain ⟨x0, x1, x2, x3, x4, x5, x6, x7, xf⟩ := facts8 HM4.out.blk
    go_wp2_with fail
    go_ret
    have ho9 : Only (· = gx) w4 (w4.setCell ⟨gx, 4, none⟩ (.slice An now.length capn)) := (Only.refl (· = gx) w4).setCell (p := ⟨gx, 4, none⟩) (.inl rfl) _
    have hkp := HFr.kp1 HM4.out.blk ho9
    exact ⟨rfl, ⟨g, gT, _, _, vx, vD, d2, rd2, false, now, now, next, sv, ⟨HM4.out.blk.set_ 4 _, hkp _ _ HM4.out.kn, hkp _ _ HM4.out.kn, hkp _ _ HM4.out.kx⟩, HP4.out.gx HM4.out.blk ho9, (fun _ => HSV.out trivial), by have := HLN.out; omega, by have := HLN.out; omega, by have := HLN.out; omega⟩, HG4.out.trans (Gk.of1 HM4.out.blk rfl HLO.out.2 ho9)⟩
  · have HP2 := Lib.hid hp2
    clear hp2
    obtain ⟨w3, hw3⟩ : ∃ x, w2.alloc (.cells #[.int .i64 3, .string ⟨#[]⟩, .bool true] 28) = x := ⟨_, rfl⟩
    have hb3 : Below w2.heap.size w2 w3 := by rw [← hw3]; exact (Below.refl _ _).alloc (Nat.le_refl _) _
    obtain ⟨be, hbe⟩ : ∃ x, w2.heap.size = x := ⟨_, rfl⟩
    have Bbe : Blk w3 be 28 [.int .i64 3, .string ⟨#[]⟩, .bool true] := by rw [← hw3, ← hbe]; exact Blk.new w2 28 _
    have HM3 := Lib.hid (HM2.out.below hb3)
    have HP3 := Lib.hid (HP2.out.below hb3)
    have HG3 : Hid (Gk w w3) := HG2.out.trans (Gk.of_below hb3)
    have HBE := Lib.hid Bbe
    obtain ⟨z0, z1, z2, _, _, _⟩ := facts3 Bbe
    have q3 := fine_any 3 w3
    unfold errA at q3
    have Q3 := Lib.hid q3
    clear x0 x1 x2 x3 x4 x5 x6 x7 xf q3 Bbe hb3
    unfold errA
    go_wp2_with fail
    refine Q3.out.mono ?_
    rintro e w4 ⟨rfl, hb4⟩
    have HM4 := Lib.hid (HM3.out.below hb4)
    have HP4 := Lib.hid (HP3.out.below hb4)
    have HG4 : Hid (Gk w w4) := HG3.out.trans (Gk.of_below hb4)
    have HBE4 := Lib.hid (HBE.out.below hb4 HBE.out.lt)
    clear z0 z1 z2 hb4
    obtain ⟨x0, x1, x2, x3, x4, x5, x6, x7, xf⟩ := facts8 HM4.out.blk
    obtain ⟨w5, hw5⟩ : ∃ x, (w4.setCell ⟨gx, 6, none⟩ (.bool true)).setCell ⟨gx, 5, none⟩ (.slice An now.length capn) = x := ⟨_, rfl⟩
    have ho5 : Only (· = gx) w4 w5 := by rw [← hw5]; exact ((Only.refl (· = gx) w4).setCell (p := ⟨gx, 6, none⟩) (.inl rfl) _).setCell (p := ⟨gx, 5, none⟩) (.inl rfl) _
    have hbk5 : Blk w5 gx 78 (plCells g gT n (.slice An now.length capn) vs (.slice An now.length capn) true false) := by rw [← hw5]; exact (HM4.out.blk.set_ 6 _).set_ 5 _
    have hkp := HFr.kp1 HM4.out.blk ho5
    have HM5 : Hid (PHm gx g gT n (.slice An now.length capn) vs (.slice An now.length capn) now safe now true false w5) := ⟨hbk5, hkp _ _ HM4.out.kn, hkp _ _ HM4.out.ks, hkp _ _ HM4.out.kn⟩
    have HP5 := Lib.hid (HP4.out.gx HM4.out.blk ho5)
    have HG5 : Hid (Gk w w5) := HG4.out.trans (Gk.of1 HM4.out.blk rfl HLO.out.2 ho5)
    have BE5 := ho5.blk_ (one_kinds HM4.out.blk) HBE4.out (by decide)
    obtain ⟨z0, z1, z2, _, _, _⟩ := facts3 BE5
    obtain ⟨y0, y1, y2, y3, y4, y5, y6, y7, yf⟩ := facts8 HM5.out.blk
    have HDS := Lib.hid (pdies_any gx g vD _ _ _ _ _ _ false d2 rd2 w5 HM5.out.blk HP5.out.disk (HP5.out.dead rfl).2.1)
    unfold errA at HDS
    clear ho5 hbk5 hkp BE5
    go_wp2_with fail
    refine HDS.out.mono ?_
    rintro e w7 ⟨rfl, w6, hb6, rfl⟩
    obtain ⟨h1, h2, h3⟩ := (HM5.out.below hb6).setBad true HLO.out.2
    have HM7 := Lib.hid h1
    have HP7 := Lib.hid ((HP5.out.below hb6).gx (HM5.out.below hb6).blk h2)
    have HG7 : Hid (Gk w (w6.setCell ⟨gx, 7, none⟩ (.bool true))) := (HG5.out.trans (Gk.of_below hb6)).trans h3
    clear h1 h2 h3 hb6
    go_wp2_with fail
    go_ret
    exact ⟨rfl, ⟨g, gT, _, vs, _, vD, d2, rd2, true, now, safe, now, true, HM7.out, HP7.out, (fun e => by cases e), by have := HLN.out; omega, by have := HLN.out; omega, by have := HLN.out; omega⟩, HG7.out⟩
  · have HP2 := Lib.hid hp2
    clear hp2
    obtain ⟨w3, hw3⟩ : ∃ x, w2.alloc (.cells #[.int .i64 3, .string ⟨#[]⟩, .bool true] 28) = x := ⟨_, rfl⟩
    have hb3 : Below w2.heap.size w2 w3 := by rw [← hw3]; exact (Below.refl _ _).alloc (Nat.le_refl _) _
    obtain ⟨be, hbe⟩ : ∃ x, w2.heap.size = x := ⟨_, rfl⟩
    have Bbe : Blk w3 be 28 [.int .i64 3, .string ⟨#[]⟩, .bool true] := by rw [← hw3, ← hbe]; exact Blk.new w2 28 _
    have HM3 := Lib.hid (HM2.out.below hb3)
    have HP3 := Lib.hid (HP2.out.below hb3)
    have HG3 : Hid (Gk w w3) := HG2.out.trans (Gk.of_below hb3)
    have HBE := Lib.hid Bbe
    obtain ⟨z0, z1, z2, _, _, _⟩ := facts3 Bbe
    have q3 := fine_any 3 w3
    unfold errA at q3
    have Q3 := Lib.hid q3
    clear x0 x1 x2 x3 x4 x5 x6 x7 xf q3 Bbe hb3
    unfold errA
    go_wp2_with fail
    refine Q3.out.mono ?_
    rintro e w4 ⟨rfl, hb4⟩
    have HM4 := Lib.hid (HM3.out.below hb4)
    have HP4 := Lib.hid (HP3.out.below hb4)
    have HG4 : Hid (Gk w w4) := HG3.out.trans (Gk.of_below hb4)
    have HBE4 := Lib.hid (HBE.out.below hb4 HBE.out.lt)
    clear z0 z1 z2 hb4
    obtain ⟨x0, x1, x2, x3, x4, x5, x6, x7, xf⟩ := facts8 HM4.out.blk
    obtain ⟨z0, z1, z2, _, _, _⟩ := facts3 HBE4.out
    have HDS := Lib.hid (pdies_any gx g vD _ _ _ _ _ _ true d2 rd2 w4 HM4.out.blk HP4.out.disk (HP4.out.dead rfl).2.1)
    unfold errA at HDS
    go_wp2_with fail
    refine HDS.out.mono ?_
    rintro e w7 ⟨rfl, w6, hb6, rfl⟩
    obtain ⟨h1, h2, h3⟩ := (HM4.out.below hb6).setBad true HLO.out.2
    have HM7 := Lib.hid h1
    have HP7 := Lib.hid ((HP4.out.below hb6).gx (HM4.out.below hb6).blk h2)
    have HG7 : Hid (Gk w (w6.setCell ⟨gx, 7, none⟩ (.bool true))) := (HG4.out.trans (Gk.of_below hb6)).trans h3
    clear h1 h2 h3 hb6
    go_wp2_with fail
    go_ret
    exact ⟨rfl, ⟨g, gT, _, vs, vx, vD, d2, rd2, true, now, safe, next, sv, HM7.out, HP7.out.later (Nat.le_succ k), (fun e => by cases e), by have := HLN.out; omega, by have := HLN.out; omega, by have := HLN.out; omega⟩, HG7.out⟩
end Go.Proofs.YtljmklohgpaopaaGreatDoor

namespace Go.Proofs.YtljmklohgpaopaaGreatDoor
open Go.RowKit
set_option linter.unusedSectionVars false
variable [Inhabited LoT]

set_option maxHeartbeats 4000000 in
set_option maxRecDepth 100000 in
theorem pact_take (gx n k i : Nat) (s : ByteArray) (w : World) (hi : i < s.size) (hss : s.size ≤ 4096) (h : PSt k gx n w) (hn : 16 ≤ n ∧ n ≤ 4096) (hk : k ≤ 4100) (hev : EvAt w) (hge : GE w) (hlo : LO ≤ w.heap.size) (hgx : LO ≤ gx) (hc : s[i].toNat % 6 = 2) :
    Calls Tryz.prog 31 #[.pointer (some ⟨gx, 0, none⟩), .string s, .int .i64 (i : Nat)] w (PAct k gx n w) := by
  obtain ⟨g, gT, vn, vs, vx, vD, d, rd, b, now, safe, next, sv, hm, hp, hsv, l1, l2, l3⟩ := h
  obtain ⟨c, hcc⟩ : ∃ c, s[i] = c := ⟨_, rfl⟩
  rw [hcc] at hc
  obtain ⟨q, hq1, hq2⟩ : ∃ q : Nat, q ≤ 42 ∧ ((c.toNat : Nat) : Int).tdiv 6 = (q : Int) := ⟨c.toNat / 6, by have := c.toNat_lt; omega, by rw [Int.tdiv_eq_ediv_of_nonneg (by omega)]; omega⟩
  have hr : ((c.toNat : Nat) : Int).tmod 6 = 2 := by rw [Int.tmod_eq_emod_of_nonneg (by omega)]; omega
  obtain ⟨m, hm1, hm2⟩ : ∃ m : Nat, m ≤ 12 ∧ (q : Int).tmod 13 = (m : Int) := ⟨q % 13, by omega, by rw [Int.tmod_eq_emod_of_nonneg (by omega)]; omega⟩
  obtain ⟨j, hj1, hj2⟩ : ∃ j : Nat, j < s.size ∧ ((i : Int) + 1).tmod (s.size : Int) = (j : Int) := ⟨(i + 1) % s.size, Nat.mod_lt _ (by omega), by rw [Int.tmod_eq_emod_of_nonneg (by omega)]; simp⟩
  obtain ⟨c2, hc2⟩ : ∃ c, s[j] = c := ⟨_, rfl⟩
  have hi2 : (i : Int) < (s.size : Int) := by omega
  have hj3 : (j : Int) < (s.size : Int) := by omega
  have hs0 : ¬ (s.size : Int) = 0 := by omega
  have hs1 : ((s.size : Int) == 0) = false := by simpa using hs0
  obtain ⟨L, hL⟩ : ∃ L, [UInt8.ofNat (97 + m), c2] = L := ⟨_, rfl⟩
  obtain ⟨key, hkey⟩ : ∃ key : Pl.Key, [107, 101, 121] ++ L = key := ⟨_, rfl⟩
  have hl2 : L.length = 2 := by rw [← hL]; rfl
  have hkl : key.length = 5 := by rw [← hkey, List.length_append, hl2]; rfl
  have hkf : Pl.KeyFit key := ⟨by omega, by omega⟩
  obtain ⟨w1, hw1⟩ : ∃ x, w.alloc (.cells #[.int .u8 (97 + (m : Int)), .int .u8 ((c2.toNat : Nat) : Int)] 5) = x := ⟨_, rfl⟩
  have hb1 : Below w.heap.size w w1 := by rw [← hw1]; exact (Below.refl _ _).alloc (Nat.le_refl _) _
  have hB : BytesAt w1 (some ⟨w.heap.size, 0, none⟩) L := by
    have h1 : Blk w1 w.heap.size 5 [.int .u8 (97 + (m : Int)), .int .u8 ((c2.toNat : Nat) : Int)] := by rw [← hw1]; exact Blk.new w 5 _
    rw [show (97 + (m : Int)) = (((UInt8.ofNat (97 + m)).toNat : Nat) : Int) by rw [UInt8.toNat_ofNat']; omega] at h1
    have h2 := Src.of_blk h1
    rw [← hL]
    exact h2.bytes
  have hcv := run_tostr w1 (some ⟨w.heap.size, 0, none⟩) L 2 hB
  rw [hl2] at hcv
  have hsz := tstr_size L
  rw [hl2] at hsz
  have hcat : (⟨#[107, 101, 121]⟩ ++ tstr L : ByteArray) = tstr key := by rw [← hkey]; simp [tstr, ByteArray.ext_iff]
  obtain ⟨sx, hsx⟩ : ∃ x, tstr L = x := ⟨_, rfl⟩
  rw [hsx] at hcv hsz hcat
  have hkz : (tstr key).size = 5 := by rw [tstr_size, hkl]
  obtain ⟨sk, hsk⟩ : ∃ x, tstr key = x := ⟨_, rfl⟩
  rw [hsk] at hcat hkz
  have hmw : IntKind.u8.wrap (97 + (m : Int)) = 97 + (m : Int) := IntWalk.u8_in _ (by omega)
  have HSK := Lib.hid hsk
  have HKF := Lib.hid (And.intro hkf hkl)
  have HB1 := Lib.hid hb1
  have HM1 := Lib.hid (hm.below hb1)
  have HP1 := Lib.hid (hp.below hb1)
  have HSV := Lib.hid hsv
  have HLN := Lib.hid (And.intro l1 (And.intro l2 l3))
  have HEG : Hid (EvAt w1 ∧ GE w1) := ⟨(Gk.of_below hb1).1 hev, (Gk.of_below hb1).2.1 hge⟩
  have HLO := Lib.hid (And.intro hlo hgx)
  have HG1 := Lib.hid (Gk.of_below hb1)
  obtain ⟨x0, x1, x2, x3, x4, x5, x6, x7, xf⟩ := facts8 (hm.below hb1).blk
  clear hL hkey hl2 hkl hkf hB hsx hsk hb1 hm hp hsv l1 l2 l3 hev hge hlo hgx
  have hcv2 := run_tobytes w1 sk
  rw [hkz] at hcv2
  obtain ⟨cz, hcz⟩ : ∃ x, grownCap w1 5 0 5 = x := ⟨_, rfl⟩
  rw [hcz] at hcv2
  obtain ⟨w2, hw2⟩ : ∃ x, w1.drew.alloc (bytesObj sk cz) = x := ⟨_, rfl⟩
  have hb2 : Below w1.heap.size w1 w2 := by rw [← hw2]; exact ((Below.refl w1.heap.size w1).drew).alloc (Nat.le_refl _) _
  have hat : BytesAt w2 (some ⟨w1.heap.size, 0, none⟩) key := by
    have h1 : BytesAt w2 (some ⟨w1.heap.size, 0, none⟩) sk.data.toList := bytesObj_at (cap := cz) (by rw [← hw2]; exact heap_alloc_new w1.drew _)
    rw [← HSK.out] at h1
    simpa [tstr] using h1
  rw [hw2] at hcv2
  have hta := pt_take (HP1.out.below hb2) hn (by have := HLN.out; omega) ((Gk.of_below hb2).1 HEG.out.1) ((Gk.of_below hb2).2.1 HEG.out.2) key HKF.out.1 _ cz hat
  rw [HKF.out.2] at hta
  have HTA := Lib.hid hta
  have HM2 := Lib.hid (HM1.out.below hb2)
  have HG2 : Hid (Gk w w2) := HG1.out.trans (Gk.of_below hb2)
  have HSRT : Hid (b = false → Pl.Srt now) := fun e => (HP1.out.good e).srt
  obtain ⟨An, capn, rfl, _⟩ := id HM1.out.kn
  clear hcz hw2 hb2 hat hta
  go_enter Tryz.func31, Tryz.ntmps31
  go_wp2_with fail
  refine HTA.out.mono ?_
  rintro e w3 ⟨kd, tb', now', rd', rfl, htr, hp3, hfr3⟩
  have HM3 := Lib.hid (HM2.out.hfr hfr3)
  have HP3 := Lib.hid hp3
  have HG3 : Hid (Gk w w3) := HG2.out.trans hfr3.gk
  have HTR := Lib.hid htr
  obtain ⟨w4, hw4⟩ : ∃ x, w3.alloc (.cells #[.int .i64 (kd : Nat), .string ⟨#[]⟩, .bool true] 28) = x := ⟨_, rfl⟩
  have hb4 : Below w3.heap.size w3 w4 := by rw [← hw4]; exact (Below.refl _ _).alloc (Nat.le_refl _) _
  obtain ⟨be, hbe⟩ : ∃ x, w3.heap.size = x := ⟨_, rfl⟩
  have Bbe : Blk w4 be 28 [.int .i64 (kd : Nat), .string ⟨#[]⟩, .bool true] := by rw [← hw4, ← hbe]; exact Blk.new w3 28 _
  have HM4 := Lib.hid (HM3.out.below hb4)
  have HP4 := Lib.hid (HP3.out.below hb4)
  have HG4 : Hid (Gk w w4) := HG3.out.trans (Gk.of_below hb4)
  have HBE := Lib.hid Bbe
  have hha := khas_any key now (.slice An now.length capn) w4 HM4.out.kn (by have := HLN.out; omega)
  rw [HSK.out] at hha
  have HHA := Lib.hid hha
  clear x0 x1 x2 x3 x4 x5 x6 x7 xf hp3 hfr3 htr hb4 Bbe hha
  obtain ⟨x0, x1, x2, x3, x4, x5, x6, x7, xf⟩ := facts8 HM4.out.blk
  unfold errA
  go_wp2_with fail
  refine HHA.out.mono ?_
  rintro e w5 ⟨rfl, rfl⟩
  obtain ⟨z0, z1, z2, _, _, _⟩ := facts3 HBE.out
  obtain ⟨hs9, hhs⟩ : ∃ x, Pl.hasP key now = x := ⟨_, rfl⟩
  have HTR' := HTR.out
  rw [hhs] at HTR' ⊢
  cases hs9 with
  | false =>
    have htr2 : kd = 8 ∧ b = false ∧ tb' = false ∧ now' = now ∨ kd = 3 ∧ tb' = true := by
      rcases HTR' with ⟨_, _, _, h, _⟩ | ⟨_, _, _, h, _⟩ | ⟨h1, h2, h3, _, h4⟩ | h
      · cases h
      · cases h
      · exact .inl ⟨h1, h2, h3, h4⟩
      · exact .inr h
    clear HTR'
    rcases htr2 with ⟨rfl, rfl, rfl, rfl⟩ | ⟨rfl, rfl⟩
    · go_wp2_with fail
      go_ret
      exact ⟨rfl, ⟨g, gT, _, vs, vx, vD, d, rd', false, now', safe, next, sv, HM4.out, HP4.out.later (Nat.le_succ k), (fun _ => HSV.out trivial), by have := HLN.out; omega, by have := HLN.out; omega, by have := HLN.out; omega⟩, HG4.out⟩
    · have HDS := Lib.hid (pdies_any gx g vD _ _ _ _ _ _ b d rd' w4 HM4.out.blk HP4.out.disk (HP4.out.dead rfl).2.1)
      unfold errA at HDS
      go_wp2_with fail
      refine HDS.out.mono ?_
      rintro e w7 ⟨rfl, w6, hb6, rfl⟩
      obtain ⟨h1, h2, h3⟩ := (HM4.out.below hb6).setBad true HLO.out.2
      have HM7 := Lib.hid h1
      have HP7 := Lib.hid ((HP4.out.below hb6).gx (HM4.out.below hb6).blk h2)
      have HG7 : Hid (Gk w (w6.setCell ⟨gx, 7, none⟩ (.bool true))) := (HG4.out.trans (Gk.of_below hb6)).trans h3
      clear h1 h2 h3 hb6
      go_wp2_with fail
      go_ret
      exact ⟨rfl, ⟨g, gT, _, vs, vx, vD, d, rd', true, now, safe, next, sv, HM7.out, (HP7.out.later (Nat.le_succ k)).any, (fun e => by cases e), by have := HLN.out; omega, by have := HLN.out; omega, by have := HLN.out; omega⟩, HG7.out⟩
  | true =>
    have HPR : Hid (PutR kd b tb' now now' (Pl.setL key [] true now)) := by
      rcases HTR' with ⟨h1, h2, h3, _, h4⟩ | ⟨h1, h2, h3, _, h4⟩ | ⟨_, _, _, h, _⟩ | h
      · exact .inl ⟨h1, h2, h3, h4⟩
      · exact .inr (.inl ⟨h1, h2, h3, h4⟩)
      · cases h
      · exact .inr (.inr h)
    have HSVT : Hid (tb' = false → sv = false) := fun e => by
      rcases HPR.out with ⟨_, h, _⟩ | ⟨_, h, _⟩ | ⟨_, h⟩
      · exact HSV.out h
      · exact HSV.out h
      · rw [h] at e; cases e
    have HLS : Hid (b = false → (Pl.setL key [] true now).length ≤ k + 1) := fun e => by
      have h1 := setL_len' (key := key) (v := []) (HSRT.out e) hhs
      have h2 := HLN.out
      omega
    clear HTR' z0 z1 z2
    go_wp2_with fail
    have C5 : Hid (w4.cell? ⟨be, 0, none⟩ = some (.int .i64 (kd : Nat)) ∧ w4.cell? ⟨be, 1, none⟩ = some (.string ⟨#[]⟩) ∧ w4.cell? ⟨be, 2, none⟩ = some (.bool true) ∧ w4.cell? ⟨gx, 3, none⟩ = some (.slice An now.length capn)) := ⟨HBE.out.cell 0, HBE.out.cell 1, HBE.out.cell 2, HM4.out.blk.cell 3⟩
    refine wp_region_L 8 (fun W => W.cell? ⟨be, 0, none⟩ = some (.int .i64 (kd : Nat)) ∧ W.cell? ⟨be, 1, none⟩ = some (.string ⟨#[]⟩) ∧ W.cell? ⟨be, 2, none⟩ = some (.bool true) ∧ W.cell? ⟨gx, 3, none⟩ = some (.slice An now.length capn)) (fun _ => True) (by kernel_rfl) C5.out trivial (fun hTill => ?_)
    refine wpL_take' (i := 0) (oi := _) (v := ?_) rfl (by kernel_rfl) (by kernel_rfl) (by kernel_rfl) (by kernel_rfl) (fun _ _ _ h => h) (.inl ⟨by rfl, ?_⟩) (by assumption) ?_
    rotate_left
    · intro W hSw
      (try dsimp only at hSw)
      go_simp
      (try rfl)
    (try simp only [Act.put, List.getElem_toArray, List.getElem_cons_succ, List.getElem_cons_zero, List.setIfInBounds_toArray, List.set_cons_zero, List.set_cons_succ])
    refine wpL_take' (i := 2) (oi := _) (v := ?_) rfl (by kernel_rfl) (by kernel_rfl) (by kernel_rfl) (by kernel_rfl) (fun _ _ _ h => h) (.inl ⟨by rfl, ?_⟩) (by assumption) ?_
    rotate_left
    · intro W hSw
      (try dsimp only at hSw)
      go_simp
      (try rfl)
    (try simp only [Act.put, List.getElem_toArray, List.getElem_cons_succ, List.getElem_cons_zero, List.setIfInBounds_toArray, List.set_cons_zero, List.set_cons_succ])
    refine wpL_take' (i := 3) (oi := _) (v := ?_) rfl (by kernel_rfl) (by kernel_rfl) (by kernel_rfl) (by kernel_rfl) (fun _ _ _ h => h) (.inl ⟨by rfl, ?_⟩) (by assumption) ?_
    rotate_left
    · intro W hSw
      (try dsimp only at hSw)
      go_simp
      (try rfl)
    (try simp only [Act.put, List.getElem_toArray, List.getElem_cons_succ, List.getElem_cons_zero, List.setIfInBounds_toArray, List.set_cons_zero, List.set_cons_succ])
    refine wpL_take' (i := 4) (oi := _) (v := ?_) rfl (by kernel_rfl) (by kernel_rfl) (by kernel_rfl) (by kernel_rfl) (fun _ _ _ h => h) (.inl ⟨by rfl, ?_⟩) (by assumption) ?_
    rotate_left
    · intro W hSw
      (try dsimp only at hSw)
      go_simp
      (try rfl)
    (try simp only [Act.put, List.getElem_toArray, List.getElem_cons_succ, List.getElem_cons_zero, List.setIfInBounds_toArray, List.set_cons_zero, List.set_cons_succ])
    refine wpL_take' (i := 6) (oi := _) (v := ?_) rfl (by kernel_rfl) (by kernel_rfl) (by kernel_rfl) (by kernel_rfl) (fun _ _ _ h => h) (.inl ⟨by rfl, ?_⟩) (by assumption) ?_
    rotate_left
    · intro W hSw
      (try dsimp only at hSw)
      go_simp
      (try rfl)
    (try simp only [Act.put, List.getElem_toArray, List.getElem_cons_succ, List.getElem_cons_zero, List.setIfInBounds_toArray, List.set_cons_zero, List.set_cons_succ])
    refine wpL_take (i := 1) (oi := _) (v := ?_) rfl (by kernel_rfl) (by kernel_rfl) (by kernel_rfl) (by kernel_rfl) (fun _ _ _ h => h) (.inl ⟨by rfl, ?_⟩) (by assumption) ?_
    rotate_left
    · intro W hSw
      (try dsimp only at hSw)
      go_simp
      (try rfl)
    (try simp only [Act.put, List.getElem_toArray, List.getElem_cons_succ, List.getElem_cons_zero, List.setIfInBounds_toArray, List.set_cons_zero, List.set_cons_succ])
    refine wpL_take2 7 (i := 5) (oi := _) (v := ?_) rfl (by kernel_rfl) (by kernel_rfl) (by kernel_rfl) (by kernel_rfl) (fun _ _ _ h => h) (.inl ⟨by rfl, ?_⟩) (by assumption) ?_
    rotate_left
    · intro W hSw
      (try dsimp only at hSw)
      go_simp
      (try rfl)
    (try simp only [Act.put, List.getElem_toArray, List.getElem_cons_succ, List.getElem_cons_zero, List.setIfInBounds_toArray, List.set_cons_zero, List.set_cons_succ])
    refine wpL_ready (rs := [7]) (by kernel_rfl) (by simp) ?_
    refine AllL.cons (o := _) rfl (fun K hK => ?_) AllL.nil
    go_simp
    have hse := set_any key [] true now (.slice An now.length capn) w4.drew (HM4.out.below ((Below.refl w4.heap.size w4).drew)).kn (by have := HLN.out; omega)
    rw [show tstr [] = (⟨#[]⟩ : ByteArray) from rfl, HSK.out] at hse
    refine hse.mono ?_
    rintro e w6 ⟨lv, rfl, hkl, hb6'⟩
    have hb6 : Below w4.heap.size w4 w6 := undrew hb6'
    have hka := hkl.at_
    have HM6 := Lib.hid (HM4.out.below hb6)
    have HP6 := Lib.hid (HP4.out.below hb6)
    have HG6 : Hid (Gk w w6) := HG4.out.trans (Gk.of_below hb6)
    have BE6 := HBE.out.below hb6 HBE.out.lt
    have C6 : Hid (w6.cell? ⟨be, 0, none⟩ = some (.int .i64 (kd : Nat)) ∧ w6.cell? ⟨be, 1, none⟩ = some (.string ⟨#[]⟩) ∧ w6.cell? ⟨be, 2, none⟩ = some (.bool true) ∧ w6.cell? ⟨gx, 3, none⟩ = some (.slice An now.length capn)) := ⟨BE6.cell 0, BE6.cell 1, BE6.cell 2, HM6.out.blk.cell 3⟩
    obtain ⟨Av, capv, rfl, _⟩ := id hka
    have HCH := Lib.hid (pchanged_any HM6.out HP6.out HPR.out hka HLO.out.2)
    unfold errA at HCH
    clear hse hkl hb6' hb6 BE6 hka
    go_wp2_with fail
    refine hK.out _ _ ⟨fun _ => C6.out, trivial⟩ (fun hTill => ?_)
    clear hK K
    (try simp only [Act.put, List.getElem_toArray, List.getElem_cons_succ, List.getElem_cons_zero, List.setIfInBounds_toArray, List.set_cons_zero, List.set_cons_succ])
    refine wpL_ready (rs := [8]) (by kernel_rfl) (by simp) ?_
    refine AllL.cons (o := _) rfl (fun K hK => ?_) AllL.nil
    go_simp
    refine HCH.out.mono ?_
    rintro e w7 ⟨rfl, vn2, now2, hm7, hp7, hn7, hg7⟩
    have HM7 := Lib.hid hm7
    have HP7 := Lib.hid hp7
    have HN7 := Lib.hid hn7
    have HG7 := Lib.hid hg7
    clear hm7 hp7 hn7 hg7
    go_wp2_with fail
    refine hK.out _ _ ⟨fun h => Bool.noConfusion ((show _ = true by kernel_rfl).symm.trans h), trivial⟩ (fun hTill => ?_)
    clear hK K
    (try simp only [Act.put, List.getElem_toArray, List.getElem_cons_succ, List.getElem_cons_zero, List.setIfInBounds_toArray, List.set_cons_zero, List.set_cons_succ])
    refine wpL_take' (i := 9) (oi := _) (v := ?_) rfl (by kernel_rfl) (by kernel_rfl) (by kernel_rfl) (by kernel_rfl) (fun _ _ _ h => h) (.inl ⟨by rfl, ?_⟩) (by assumption) ?_
    rotate_left
    · intro W hSw
      (try dsimp only at hSw)
      go_simp
      (try rfl)
    (try simp only [Act.put, List.getElem_toArray, List.getElem_cons_succ, List.getElem_cons_zero, List.setIfInBounds_toArray, List.set_cons_zero, List.set_cons_succ])
    refine wpL_done (by kernel_rfl) ?_ _
    clear hTill
    go_wp2_with fail
    go_ret
    have hl7 : now2.length ≤ k + 1 := by
      have h1 := HLN.out
      have h2 := HLS.out
      rcases HN7.out with h3 | h3
      · rw [h3]; omega
      · rw [h3.2]; exact h2 h3.1
    exact ⟨rfl, ⟨g, gT, vn2, vs, vx, vD, d, rd', tb', now2, safe, next, sv, HM7.out, HP7.out.later (Nat.le_succ k), HSVT.out, hl7, by have := HLN.out; omega, by have := HLN.out; omega⟩, HG6.out.trans HG7.out⟩
end Go.Proofs.YtljmklohgpaopaaGreatDoor
