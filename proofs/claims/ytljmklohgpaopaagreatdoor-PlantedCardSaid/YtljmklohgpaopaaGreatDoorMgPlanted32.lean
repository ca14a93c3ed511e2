/- The harness over a tree: Put. -/
import Derived.Test.YtljmklohgpaopaaGreatDoorMgPlanted31
set_option linter.unusedVariables false
set_option linter.unusedSimpArgs false

namespace Go.Proofs.YtljmklohgpaopaaGreatDoor
open Go.RowKit
set_option linter.unusedSectionVars false
variable [Inhabited LoT]

set_option maxHeartbeats 4000000 in
set_option maxRecDepth 100000 in
theorem pact_put0 (gx n k i : Nat) (s : ByteArray) (w : World) (hi : i < s.size) (hss : s.size ≤ 4096) (h : PSt k gx n w) (hn : 16 ≤ n ∧ n ≤ 4096) (hk : k ≤ 4100) (hev : EvAt w) (hge : GE w) (hlo : LO ≤ w.heap.size) (hgx : LO ≤ gx) (hc : s[i].toNat % 6 = 0) :
    Calls Tryz.prog 31 #[.pointer (some ⟨gx, 0, none⟩), .string s, .int .i64 (i : Nat)] w (PAct k gx n w) := by
  obtain ⟨g, gT, vn, vs, vx, vD, d, rd, b, now, safe, next, sv, hm, hp, hsv, l1, l2, l3⟩ := h
  obtain ⟨c, hcc⟩ : ∃ c, s[i] = c := ⟨_, rfl⟩
  rw [hcc] at hc
  obtain ⟨q, hq1, hq2⟩ : ∃ q : Nat, q ≤ 42 ∧ ((c.toNat : Nat) : Int).tdiv 6 = (q : Int) := ⟨c.toNat / 6, by have := c.toNat_lt; omega, by rw [Int.tdiv_eq_ediv_of_nonneg (by omega)]; omega⟩
  have hr : ((c.toNat : Nat) : Int).tmod 6 = 0 := by rw [Int.tmod_eq_emod_of_nonneg (by omega)]; omega
  obtain ⟨m, hm1, hm2⟩ : ∃ m : Nat, m ≤ 12 ∧ (q : Int).tmod 13 = (m : Int) := ⟨q % 13, by omega, by rw [Int.tmod_eq_emod_of_nonneg (by omega)]; omega⟩
  obtain ⟨j, hj1, hj2⟩ : ∃ j : Nat, j < s.size ∧ ((i : Int) + 1).tmod (s.size : Int) = (j : Int) := ⟨(i + 1) % s.size, Nat.mod_lt _ (by omega), by rw [Int.tmod_eq_emod_of_nonneg (by omega)]; simp⟩
  obtain ⟨c2, hc2⟩ : ∃ c, s[j] = c := ⟨_, rfl⟩
  have hi2 : (i : Int) < (s.size : Int) := by omega
  have hj3 : (j : Int) < (s.size : Int) := by omega
  have hs0 : ¬ (s.size : Int) = 0 := by omega
  have hs1 : ((s.size : Int) == 0) = false := by simpa using hs0
  obtain ⟨L, hL⟩ : ∃ L, [UInt8.ofNat (97 + m), c2] = L := ⟨_, rfl⟩
  obtain ⟨key, hkey⟩ : ∃ key : Pl.Key, [107, 101, 121] ++ L = key := ⟨_, rfl⟩
  have hl2 : L.length = 2 := by rw [← hL]; rfl
  have hkl : key.length = 5 := by rw [← hkey, List.length_append, hl2]; rfl
  have hkf : Pl.KeyFit key := ⟨by omega, by omega⟩
  obtain ⟨w1, hw1⟩ : ∃ x, w.alloc (.cells #[.int .u8 (97 + (m : Int)), .int .u8 ((c2.toNat : Nat) : Int)] 5) = x := ⟨_, rfl⟩
  have hb1 : Below w.heap.size w w1 := by rw [← hw1]; exact (Below.refl _ _).alloc (Nat.le_refl _) _
  have hB : BytesAt w1 (some ⟨w.heap.size, 0, none⟩) L := by
    have h1 : Blk w1 w.heap.size 5 [.int .u8 (97 + (m : Int)), .int .u8 ((c2.toNat : Nat) : Int)] := by rw [← hw1]; exact Blk.new w 5 _
    rw [show (97 + (m : Int)) = (((UInt8.ofNat (97 + m)).toNat : Nat) : Int) by rw [UInt8.toNat_ofNat']; omega] at h1
    have h2 := Src.of_blk h1
    rw [← hL]
    exact h2.bytes
  have hcv := run_tostr w1 (some ⟨w.heap.size, 0, none⟩) L 2 hB
  rw [hl2] at hcv
  have hsz := tstr_size L
  rw [hl2] at hsz
  have hcat : (⟨#[107, 101, 121]⟩ ++ tstr L : ByteArray) = tstr key := by rw [← hkey]; simp [tstr, ByteArray.ext_iff]
  obtain ⟨sx, hsx⟩ : ∃ x, tstr L = x := ⟨_, rfl⟩
  rw [hsx] at hcv hsz hcat
  have hkz : (tstr key).size = 5 := by rw [tstr_size, hkl]
  obtain ⟨sk, hsk⟩ : ∃ x, tstr key = x := ⟨_, rfl⟩
  rw [hsk] at hcat hkz
  have hmw : IntKind.u8.wrap (97 + (m : Int)) = 97 + (m : Int) := IntWalk.u8_in _ (by omega)
  have HSK := Lib.hid hsk
  have HKF := Lib.hid (And.intro hkf hkl)
  have HB1 := Lib.hid hb1
  have HM1 := Lib.hid (hm.below hb1)
  have HP1 := Lib.hid (hp.below hb1)
  have HSV := Lib.hid hsv
  have HLN := Lib.hid (And.intro l1 (And.intro l2 l3))
  have HEG : Hid (EvAt w1 ∧ GE w1) := ⟨(Gk.of_below hb1).1 hev, (Gk.of_below hb1).2.1 hge⟩
  have HLO := Lib.hid (And.intro hlo hgx)
  have HG1 := Lib.hid (Gk.of_below hb1)
  obtain ⟨x0, x1, x2, x3, x4, x5, x6, x7, xf⟩ := facts8 (hm.below hb1).blk
  clear hL hkey hl2 hkl hkf hB hsx hsk hb1 hm hp hsv l1 l2 l3 hev hge hlo hgx
  obtain ⟨u, hu1, hu2⟩ : ∃ u : Nat, u ≤ 300 ∧ (q : Int) * 7 = (u : Int) := ⟨q * 7, by omega, by push_cast; rfl⟩
  obtain ⟨z, hz1, hz2⟩ : ∃ z : Nat, z ≤ 100 ∧ (u : Int).tmod 101 = (z : Int) := ⟨u % 101, by omega, by rw [Int.tmod_eq_emod_of_nonneg (by omega)]; omega⟩
  have huw : IntKind.i64.wrap (u : Int) = (u : Int) := IntWalk.i64_in _ (by omega)
  have hmk := make_bytes (z : Int) z rfl (by omega) w1
  obtain ⟨w2, hw2⟩ : ∃ x, w1.alloc (.cells (zrow z).toArray 5) = x := ⟨_, rfl⟩
  have hb2 : Below w1.heap.size w1 w2 := by rw [← hw2]; exact (Below.refl _ _).alloc (Nat.le_refl _) _
  have hzb : BytesAt w2 (some ⟨w1.heap.size, 0, none⟩) (Pl.zeros z) := by rw [← hw2]; exact zeros_at w1 z
  rw [hw2] at hmk
  have hzl : (Pl.zeros z).length = z := by simp [Pl.zeros]
  have hcz1 := run_tostr w2 (some ⟨w1.heap.size, 0, none⟩) (Pl.zeros z) z hzb
  rw [hzl] at hcz1
  obtain ⟨vl, hvl⟩ : ∃ vl : Pl.Key, Pl.zeros z ++ [120] = vl := ⟨_, rfl⟩
  have hvll : vl.length = z + 1 := by rw [← hvl, List.length_append, hzl]; rfl
  have hcat2 : (tstr (Pl.zeros z) ++ ⟨#[120]⟩ : ByteArray) = tstr vl := by rw [← hvl]; simp [tstr, ByteArray.ext_iff]
  have hszz := tstr_size (Pl.zeros z)
  rw [hzl] at hszz
  obtain ⟨sz, hsz3⟩ : ∃ x, tstr (Pl.zeros z) = x := ⟨_, rfl⟩
  rw [hsz3] at hcz1 hcat2 hszz
  have hsvs : (tstr vl).size = z + 1 := by rw [tstr_size, hvll]
  obtain ⟨sv1, hsv1⟩ : ∃ x, tstr vl = x := ⟨_, rfl⟩
  rw [hsv1] at hcat2 hsvs
  have HB12 := Lib.hid hb2
  have HM2 := Lib.hid (HM1.out.below hb2)
  have HSRT : Hid (b = false → Pl.Srt now) := fun e => (HP1.out.good e).srt
  clear x0 x1 x2 x3 x4 x5 x6 x7 xf
  obtain ⟨An, capn, rfl, _⟩ := id HM1.out.kn
  by_cases hz : z = 100
  · have hgt : (100 : Int) < ((z + 1 : Nat) : Int) := by omega
    have hgt2 : (100 : Int) < (z : Int) + 1 := by omega
    have HSVV : Hid (tstr [121] = (⟨#[121]⟩ : ByteArray)) := rfl
    have HVL : Hid (([121] : Pl.Key).length ≤ 100 ∧ ([121] : Pl.Key).length = 1) := ⟨by decide, rfl⟩
    clear hz hw2 hb2 hzb hzl hvl hvll hsz3 hsv1
    have hcv2 := run_tobytes w2 sk
    rw [hkz] at hcv2
    obtain ⟨cz, hcz⟩ : ∃ x, grownCap w2 5 0 5 = x := ⟨_, rfl⟩
    rw [hcz] at hcv2
    obtain ⟨w3, hw3⟩ : ∃ x, w2.drew.alloc (bytesObj sk cz) = x := ⟨_, rfl⟩
    have hb3 : Below w2.heap.size w2 w3 := by rw [← hw3]; exact ((Below.refl w2.heap.size w2).drew).alloc (Nat.le_refl _) _
    have hat : BytesAt w3 (some ⟨w2.heap.size, 0, none⟩) key := by
      have h1 : BytesAt w3 (some ⟨w2.heap.size, 0, none⟩) sk.data.toList := bytesObj_at (cap := cz) (by rw [← hw3]; exact heap_alloc_new w2.drew _)
      rw [← HSK.out] at h1
      simpa [tstr] using h1
    rw [hw3] at hcv2
    have hcv3 := run_tobytes w3 (⟨#[121]⟩ : ByteArray)
    rw [show ((⟨#[121]⟩ : ByteArray) : ByteArray).size = 1 from rfl] at hcv3
    obtain ⟨cy, hcy⟩ : ∃ x, grownCap w3 1 0 5 = x := ⟨_, rfl⟩
    rw [hcy] at hcv3
    obtain ⟨w4, hw4⟩ : ∃ x, w3.drew.alloc (bytesObj (⟨#[121]⟩ : ByteArray) cy) = x := ⟨_, rfl⟩
    have hb4 : Below w3.heap.size w3 w4 := by rw [← hw4]; exact ((Below.refl w3.heap.size w3).drew).alloc (Nat.le_refl _) _
    have hav : BytesAt w4 (some ⟨w3.heap.size, 0, none⟩) [121] := by
      have h1 : BytesAt w4 (some ⟨w3.heap.size, 0, none⟩) ((⟨#[121]⟩ : ByteArray) : ByteArray).data.toList := bytesObj_at (cap := cy) (by rw [← hw4]; exact heap_alloc_new w3.drew _)
      rw [show ((⟨#[121]⟩ : ByteArray) : ByteArray) = tstr [121] from (HSVV.out).symm] at h1
      simpa [tstr] using h1
    rw [hw4] at hcv3
    have hb14 : Below w1.heap.size w1 w4 := HB12.out.trans ((hb3.trans (hb4.mono hb3.size)).mono HB12.out.size)
    have hta := pt_put (HP1.out.below hb14) hn (by have := HLN.out; omega) ((Gk.of_below hb14).1 HEG.out.1) ((Gk.of_below hb14).2.1 HEG.out.2) key [121] HKF.out.1 HVL.out.1 _ _ cz cy (hat.keep hb4) hav
    rw [HKF.out.2, HVL.out.2] at hta
    have HTA := Lib.hid hta
    have HM4 := Lib.hid (HM1.out.below hb14)
    have HG4 : Hid (Gk w w4) := HG1.out.trans (Gk.of_below hb14)
    clear hcz hw3 hb3 hat hcy hw4 hb4 hav hb14 hta
    obtain ⟨x0, x1, x2, x3, x4, x5, x6, x7, xf⟩ := facts8 HM2.out.blk
    go_enter Tryz.func31, Tryz.ntmps31
    go_wp2_with fail
    refine HTA.out.mono ?_
    rintro e w5 ⟨kd, tb', now', rd', rfl, hpr, hp5, hfr5⟩
    have HM5 := Lib.hid (HM4.out.hfr hfr5)
    have HP5 := Lib.hid hp5
    have HG5 : Hid (Gk w w5) := HG4.out.trans hfr5.gk
    have HPR := Lib.hid hpr
    obtain ⟨wb, hwb⟩ : ∃ x, w5.alloc (.cells #[.int .i64 (kd : Nat), .string ⟨#[]⟩, .bool true] 28) = x := ⟨_, rfl⟩
    have hbb : Below w5.heap.size w5 wb := by rw [← hwb]; exact (Below.refl _ _).alloc (Nat.le_refl _) _
    obtain ⟨be, hbe⟩ : ∃ x, w5.heap.size = x := ⟨_, rfl⟩
    have Bbe : Blk wb be 28 [.int .i64 (kd : Nat), .string ⟨#[]⟩, .bool true] := by rw [← hwb, ← hbe]; exact Blk.new w5 28 _
    have HMb := Lib.hid (HM5.out.below hbb)
    have HPb := Lib.hid (HP5.out.below hbb)
    have HGb : Hid (Gk w wb) := HG5.out.trans (Gk.of_below hbb)
    have HBE := Lib.hid Bbe
    have HSVT : Hid (tb' = false → sv = false) := fun e => by
      rcases HPR.out with ⟨_, h, _⟩ | ⟨_, h, _⟩ | ⟨_, h⟩
      · exact HSV.out h
      · exact HSV.out h
      · rw [h] at e; cases e
    have HLS : Hid (b = false → (Pl.setL key [121] false now).length ≤ k + 1) := fun e => by
      have h1 := setL_len (key := key) (v := [121]) (HSRT.out e)
      have h2 := HLN.out
      omega
    clear x0 x1 x2 x3 x4 x5 x6 x7 xf hp5 hfr5 hpr hbb Bbe
    unfold errA
    go_wp2_with fail
    have C5 : Hid (wb.cell? ⟨be, 0, none⟩ = some (.int .i64 (kd : Nat)) ∧ wb.cell? ⟨be, 1, none⟩ = some (.string ⟨#[]⟩) ∧ wb.cell? ⟨be, 2, none⟩ = some (.bool true) ∧ wb.cell? ⟨gx, 3, none⟩ = some (.slice An now.length capn)) := ⟨HBE.out.cell 0, HBE.out.cell 1, HBE.out.cell 2, HMb.out.blk.cell 3⟩
    refine wp_region_L 9 (fun W => W.cell? ⟨be, 0, none⟩ = some (.int .i64 (kd : Nat)) ∧ W.cell? ⟨be, 1, none⟩ = some (.string ⟨#[]⟩) ∧ W.cell? ⟨be, 2, none⟩ = some (.bool true) ∧ W.cell? ⟨gx, 3, none⟩ = some (.slice An now.length capn)) (fun _ => True) (by kernel_rfl) C5.out trivial (fun hTill => ?_)
    refine wpL_take' (i := 0) (oi := _) (v := ?_) rfl (by kernel_rfl) (by kernel_rfl) (by kernel_rfl) (by kernel_rfl) (fun _ _ _ h => h) (.inl ⟨by rfl, ?_⟩) (by assumption) ?_
    rotate_left
    · intro W hSw
      (try dsimp only at hSw)
      go_simp
      (try rfl)
    (try simp only [Act.put, List.getElem_toArray, List.getElem_cons_succ, List.getElem_cons_zero, List.setIfInBounds_toArray, List.set_cons_zero, List.set_cons_succ])
    refine wpL_take' (i := 2) (oi := _) (v := ?_) rfl (by kernel_rfl) (by kernel_rfl) (by kernel_rfl) (by kernel_rfl) (fun _ _ _ h => h) (.inl ⟨by rfl, ?_⟩) (by assumption) ?_
    rotate_left
    · intro W hSw
      (try dsimp only at hSw)
      go_simp
      (try rfl)
    (try simp only [Act.put, List.getElem_toArray, List.getElem_cons_succ, List.getElem_cons_zero, List.setIfInBounds_toArray, List.set_cons_zero, List.set_cons_succ])
    refine wpL_take' (i := 3) (oi := _) (v := ?_) rfl (by kernel_rfl) (by kernel_rfl) (by kernel_rfl) (by kernel_rfl) (fun _ _ _ h => h) (.inl ⟨by rfl, ?_⟩) (by assumption) ?_
    rotate_left
    · intro W hSw
      (try dsimp only at hSw)
      go_simp
      (try rfl)
    (try simp only [Act.put, List.getElem_toArray, List.getElem_cons_succ, List.getElem_cons_zero, List.setIfInBounds_toArray, List.set_cons_zero, List.set_cons_succ])
    refine wpL_take' (i := 4) (oi := _) (v := ?_) rfl (by kernel_rfl) (by kernel_rfl) (by kernel_rfl) (by kernel_rfl) (fun _ _ _ h => h) (.inl ⟨by rfl, ?_⟩) (by assumption) ?_
    rotate_left
    · intro W hSw
      (try dsimp only at hSw)
      go_simp
      (try rfl)
    (try simp only [Act.put, List.getElem_toArray, List.getElem_cons_succ, List.getElem_cons_zero, List.setIfInBounds_toArray, List.set_cons_zero, List.set_cons_succ])
    refine wpL_take' (i := 6) (oi := _) (v := ?_) rfl (by kernel_rfl) (by kernel_rfl) (by kernel_rfl) (by kernel_rfl) (fun _ _ _ h => h) (.inl ⟨by rfl, ?_⟩) (by assumption) ?_
    rotate_left
    · intro W hSw
      (try dsimp only at hSw)
      go_simp
      (try rfl)
    (try simp only [Act.put, List.getElem_toArray, List.getElem_cons_succ, List.getElem_cons_zero, List.setIfInBounds_toArray, List.set_cons_zero, List.set_cons_succ])
    refine wpL_take' (i := 7) (oi := _) (v := ?_) rfl (by kernel_rfl) (by kernel_rfl) (by kernel_rfl) (by kernel_rfl) (fun _ _ _ h => h) (.inl ⟨by rfl, ?_⟩) (by assumption) ?_
    rotate_left
    · intro W hSw
      (try dsimp only at hSw)
      go_simp
      (try rfl)
    (try simp only [Act.put, List.getElem_toArray, List.getElem_cons_succ, List.getElem_cons_zero, List.setIfInBounds_toArray, List.set_cons_zero, List.set_cons_succ])
    refine wpL_take (i := 1) (oi := _) (v := ?_) rfl (by kernel_rfl) (by kernel_rfl) (by kernel_rfl) (by kernel_rfl) (fun _ _ _ h => h) (.inl ⟨by rfl, ?_⟩) (by assumption) ?_
    rotate_left
    · intro W hSw
      (try dsimp only at hSw)
      go_simp
      (try rfl)
    (try simp only [Act.put, List.getElem_toArray, List.getElem_cons_succ, List.getElem_cons_zero, List.setIfInBounds_toArray, List.set_cons_zero, List.set_cons_succ])
    refine wpL_take2 8 (i := 5) (oi := _) (v := ?_) rfl (by kernel_rfl) (by kernel_rfl) (by kernel_rfl) (by kernel_rfl) (fun _ _ _ h => h) (.inl ⟨by rfl, ?_⟩) (by assumption) ?_
    rotate_left
    · intro W hSw
      (try dsimp only at hSw)
      go_simp
      (try rfl)
    (try simp only [Act.put, List.getElem_toArray, List.getElem_cons_succ, List.getElem_cons_zero, List.setIfInBounds_toArray, List.set_cons_zero, List.set_cons_succ])
    refine wpL_ready (rs := [8]) (by kernel_rfl) (by simp) ?_
    refine AllL.cons (o := _) rfl (fun K hK => ?_) AllL.nil
    go_simp
    have hse := set_any key [121] false now (.slice An now.length capn) wb.drew (HMb.out.below ((Below.refl wb.heap.size wb).drew)).kn (by have := HLN.out; omega)
    rw [HSVV.out, HSK.out] at hse
    refine hse.mono ?_
    rintro e w6 ⟨lv, rfl, hkl, hb6'⟩
    have hb6 : Below wb.heap.size wb w6 := undrew hb6'
    have hka := hkl.at_
    have HM6 := Lib.hid (HMb.out.below hb6)
    have HP6 := Lib.hid (HPb.out.below hb6)
    have HG6 : Hid (Gk w w6) := HGb.out.trans (Gk.of_below hb6)
    have BE6 := HBE.out.below hb6 HBE.out.lt
    have C6 : Hid (w6.cell? ⟨be, 0, none⟩ = some (.int .i64 (kd : Nat)) ∧ w6.cell? ⟨be, 1, none⟩ = some (.string ⟨#[]⟩) ∧ w6.cell? ⟨be, 2, none⟩ = some (.bool true) ∧ w6.cell? ⟨gx, 3, none⟩ = some (.slice An now.length capn)) := ⟨BE6.cell 0, BE6.cell 1, BE6.cell 2, HM6.out.blk.cell 3⟩
    obtain ⟨Av, capv, rfl, _⟩ := id hka
    have HCH := Lib.hid (pchanged_any HM6.out HP6.out HPR.out hka HLO.out.2)
    unfold errA at HCH
    clear hse hkl hb6' hb6 BE6 hka
    go_wp2_with fail
    refine hK.out _ _ ⟨fun _ => C6.out, trivial⟩ (fun hTill => ?_)
    clear hK K
    (try simp only [Act.put, List.getElem_toArray, List.getElem_cons_succ, List.getElem_cons_zero, List.setIfInBounds_toArray, List.set_cons_zero, List.set_cons_succ])
    refine wpL_ready (rs := [9]) (by kernel_rfl) (by simp) ?_
    refine AllL.cons (o := _) rfl (fun K hK => ?_) AllL.nil
    go_simp
    refine HCH.out.mono ?_
    rintro e w7 ⟨rfl, vn2, now2, hm7, hp7, hn7, hg7⟩
    have HM7 := Lib.hid hm7
    have HP7 := Lib.hid hp7
    have HN7 := Lib.hid hn7
    have HG7 := Lib.hid hg7
    clear hm7 hp7 hn7 hg7
    go_wp2_with fail
    refine hK.out _ _ ⟨fun h => Bool.noConfusion ((show _ = true by kernel_rfl).symm.trans h), trivial⟩ (fun hTill => ?_)
    clear hK K
    (try simp only [Act.put, List.getElem_toArray, List.getElem_cons_succ, List.getElem_cons_zero, List.setIfInBounds_toArray, List.set_cons_zero, List.set_cons_succ])
    refine wpL_take' (i := 10) (oi := _) (v := ?_) rfl (by kernel_rfl) (by kernel_rfl) (by kernel_rfl) (by kernel_rfl) (fun _ _ _ h => h) (.inl ⟨by rfl, ?_⟩) (by assumption) ?_
    rotate_left
    · intro W hSw
      (try dsimp only at hSw)
      go_simp
      (try rfl)
    (try simp only [Act.put, List.getElem_toArray, List.getElem_cons_succ, List.getElem_cons_zero, List.setIfInBounds_toArray, List.set_cons_zero, List.set_cons_succ])
    refine wpL_done (by kernel_rfl) ?_ _
    clear hTill
    go_wp2_with fail
    go_ret
    have hl7 : now2.length ≤ k + 1 := by
      have h1 := HLN.out
      have h2 := HLS.out
      rcases HN7.out with h3 | h3
      · rw [h3]; omega
      · rw [h3.2]; exact h2 h3.1
    exact ⟨rfl, ⟨g, gT, vn2, vs, vx, vD, d, rd', tb', now2, safe, next, sv, HM7.out, HP7.out.later (Nat.le_succ k), HSVT.out, hl7, by have := HLN.out; omega, by have := HLN.out; omega⟩, HG6.out.trans HG7.out⟩
  · have hgt : ¬ (100 : Int) < ((z + 1 : Nat) : Int) := by omega
    have hgt2 : ¬ (100 : Int) < (z : Int) + 1 := by omega
    have HSVV : Hid (tstr vl = sv1) := hsv1
    have HVL : Hid (vl.length ≤ 100 ∧ vl.length = z + 1) := ⟨by omega, hvll⟩
    clear hz hw2 hb2 hzb hzl hvl hvll hsz3 hsv1
    have hcv2 := run_tobytes w2 sk
    rw [hkz] at hcv2
    obtain ⟨cz, hcz⟩ : ∃ x, grownCap w2 5 0 5 = x := ⟨_, rfl⟩
    rw [hcz] at hcv2
    obtain ⟨w3, hw3⟩ : ∃ x, w2.drew.alloc (bytesObj sk cz) = x := ⟨_, rfl⟩
    have hb3 : Below w2.heap.size w2 w3 := by rw [← hw3]; exact ((Below.refl w2.heap.size w2).drew).alloc (Nat.le_refl _) _
    have hat : BytesAt w3 (some ⟨w2.heap.size, 0, none⟩) key := by
      have h1 : BytesAt w3 (some ⟨w2.heap.size, 0, none⟩) sk.data.toList := bytesObj_at (cap := cz) (by rw [← hw3]; exact heap_alloc_new w2.drew _)
      rw [← HSK.out] at h1
      simpa [tstr] using h1
    rw [hw3] at hcv2
    have hcv3 := run_tobytes w3 sv1
    rw [show (sv1 : ByteArray).size = (z + 1) from hsvs] at hcv3
    obtain ⟨cy, hcy⟩ : ∃ x, grownCap w3 (z + 1) 0 5 = x := ⟨_, rfl⟩
    rw [hcy] at hcv3
    obtain ⟨w4, hw4⟩ : ∃ x, w3.drew.alloc (bytesObj sv1 cy) = x := ⟨_, rfl⟩
    have hb4 : Below w3.heap.size w3 w4 := by rw [← hw4]; exact ((Below.refl w3.heap.size w3).drew).alloc (Nat.le_refl _) _
    have hav : BytesAt w4 (some ⟨w3.heap.size, 0, none⟩) vl := by
      have h1 : BytesAt w4 (some ⟨w3.heap.size, 0, none⟩) (sv1 : ByteArray).data.toList := bytesObj_at (cap := cy) (by rw [← hw4]; exact heap_alloc_new w3.drew _)
      rw [show (sv1 : ByteArray) = tstr vl from (HSVV.out).symm] at h1
      simpa [tstr] using h1
    rw [hw4] at hcv3
    have hb14 : Below w1.heap.size w1 w4 := HB12.out.trans ((hb3.trans (hb4.mono hb3.size)).mono HB12.out.size)
    have hta := pt_put (HP1.out.below hb14) hn (by have := HLN.out; omega) ((Gk.of_below hb14).1 HEG.out.1) ((Gk.of_below hb14).2.1 HEG.out.2) key vl HKF.out.1 HVL.out.1 _ _ cz cy (hat.keep hb4) hav
    rw [HKF.out.2, HVL.out.2] at hta
    have HTA := Lib.hid hta
    have HM4 := Lib.hid (HM1.out.below hb14)
    have HG4 : Hid (Gk w w4) := HG1.out.trans (Gk.of_below hb14)
    clear hcz hw3 hb3 hat hcy hw4 hb4 hav hb14 hta
    obtain ⟨x0, x1, x2, x3, x4, x5, x6, x7, xf⟩ := facts8 HM2.out.blk
    go_enter Tryz.func31, Tryz.ntmps31
    go_wp2_with fail
    refine HTA.out.mono ?_
    rintro e w5 ⟨kd, tb', now', rd', rfl, hpr, hp5, hfr5⟩
    have HM5 := Lib.hid (HM4.out.hfr hfr5)
    have HP5 := Lib.hid hp5
    have HG5 : Hid (Gk w w5) := HG4.out.trans hfr5.gk
    have HPR := Lib.hid hpr
    obtain ⟨wb, hwb⟩ : ∃ x, w5.alloc (.cells #[.int .i64 (kd : Nat), .string ⟨#[]⟩, .bool true] 28) = x := ⟨_, rfl⟩
    have hbb : Below w5.heap.size w5 wb := by rw [← hwb]; exact (Below.refl _ _).alloc (Nat.le_refl _) _
    obtain ⟨be, hbe⟩ : ∃ x, w5.heap.size = x := ⟨_, rfl⟩
    have Bbe : Blk wb be 28 [.int .i64 (kd : Nat), .string ⟨#[]⟩, .bool true] := by rw [← hwb, ← hbe]; exact Blk.new w5 28 _
    have HMb := Lib.hid (HM5.out.below hbb)
    have HPb := Lib.hid (HP5.out.below hbb)
    have HGb : Hid (Gk w wb) := HG5.out.trans (Gk.of_below hbb)
    have HBE := Lib.hid Bbe
    have HSVT : Hid (tb' = false → sv = false) := fun e => by
      rcases HPR.out with ⟨_, h, _⟩ | ⟨_, h, _⟩ | ⟨_, h⟩
      · exact HSV.out h
      · exact HSV.out h
      · rw [h] at e; cases e
    have HLS : Hid (b = false → (Pl.setL key vl false now).length ≤ k + 1) := fun e => by
      have h1 := setL_len (key := key) (v := vl) (HSRT.out e)
      have h2 := HLN.out
      omega
    clear x0 x1 x2 x3 x4 x5 x6 x7 xf hp5 hfr5 hpr hbb Bbe
    unfold errA
    go_wp2_with fail
    have C5 : Hid (wb.cell? ⟨be, 0, none⟩ = some (.int .i64 (kd : Nat)) ∧ wb.cell? ⟨be, 1, none⟩ = some (.string ⟨#[]⟩) ∧ wb.cell? ⟨be, 2, none⟩ = some (.bool true) ∧ wb.cell? ⟨gx, 3, none⟩ = some (.slice An now.length capn)) := ⟨HBE.out.cell 0, HBE.out.cell 1, HBE.out.cell 2, HMb.out.blk.cell 3⟩
    refine wp_region_L 9 (fun W => W.cell? ⟨be, 0, none⟩ = some (.int .i64 (kd : Nat)) ∧ W.cell? ⟨be, 1, none⟩ = some (.string ⟨#[]⟩) ∧ W.cell? ⟨be, 2, none⟩ = some (.bool true) ∧ W.cell? ⟨gx, 3, none⟩ = some (.slice An now.length capn)) (fun _ => True) (by kernel_rfl) C5.out trivial (fun hTill => ?_)
    refine wpL_take' (i := 0) (oi := _) (v := ?_) rfl (by kernel_rfl) (by kernel_rfl) (by kernel_rfl) (by kernel_rfl) (fun _ _ _ h => h) (.inl ⟨by rfl, ?_⟩) (by assumption) ?_
    rotate_left
    · intro W hSw
      (try dsimp only at hSw)
      go_simp
      (try rfl)
    (try simp only [Act.put, List.getElem_toArray, List.getElem_cons_succ, List.getElem_cons_zero, List.setIfInBounds_toArray, List.set_cons_zero, List.set_cons_succ])
    refine wpL_take' (i := 2) (oi := _) (v := ?_) rfl (by kernel_rfl) (by kernel_rfl) (by kernel_rfl) (by kernel_rfl) (fun _ _ _ h => h) (.inl ⟨by rfl, ?_⟩) (by assumption) ?_
    rotate_left
    · intro W hSw
      (try dsimp only at hSw)
      go_simp
      (try rfl)
    (try simp only [Act.put, List.getElem_toArray, List.getElem_cons_succ, List.getElem_cons_zero, List.setIfInBounds_toArray, List.set_cons_zero, List.set_cons_succ])
    refine wpL_take' (i := 3) (oi := _) (v := ?_) rfl (by kernel_rfl) (by kernel_rfl) (by kernel_rfl) (by kernel_rfl) (fun _ _ _ h => h) (.inl ⟨by rfl, ?_⟩) (by assumption) ?_
    rotate_left
    · intro W hSw
      (try dsimp only at hSw)
      go_simp
      (try rfl)
    (try simp only [Act.put, List.getElem_toArray, List.getElem_cons_succ, List.getElem_cons_zero, List.setIfInBounds_toArray, List.set_cons_zero, List.set_cons_succ])
    refine wpL_take' (i := 4) (oi := _) (v := ?_) rfl (by kernel_rfl) (by kernel_rfl) (by kernel_rfl) (by kernel_rfl) (fun _ _ _ h => h) (.inl ⟨by rfl, ?_⟩) (by assumption) ?_
    rotate_left
    · intro W hSw
      (try dsimp only at hSw)
      go_simp
      (try rfl)
    (try simp only [Act.put, List.getElem_toArray, List.getElem_cons_succ, List.getElem_cons_zero, List.setIfInBounds_toArray, List.set_cons_zero, List.set_cons_succ])
    refine wpL_take' (i := 6) (oi := _) (v := ?_) rfl (by kernel_rfl) (by kernel_rfl) (by kernel_rfl) (by kernel_rfl) (fun _ _ _ h => h) (.inl ⟨by rfl, ?_⟩) (by assumption) ?_
    rotate_left
    · intro W hSw
      (try dsimp only at hSw)
      go_simp
      (try rfl)
    (try simp only [Act.put, List.getElem_toArray, List.getElem_cons_succ, List.getElem_cons_zero, List.setIfInBounds_toArray, List.set_cons_zero, List.set_cons_succ])
    refine wpL_take' (i := 7) (oi := _) (v := ?_) rfl (by kernel_rfl) (by kernel_rfl) (by kernel_rfl) (by kernel_rfl) (fun _ _ _ h => h) (.inl ⟨by rfl, ?_⟩) (by assumption) ?_
    rotate_left
    · intro W hSw
      (try dsimp only at hSw)
      go_simp
      (try rfl)
    (try simp only [Act.put, List.getElem_toArray, List.getElem_cons_succ, List.getElem_cons_zero, List.setIfInBounds_toArray, List.set_cons_zero, List.set_cons_succ])
    refine wpL_take (i := 1) (oi := _) (v := ?_) rfl (by kernel_rfl) (by kernel_rfl) (by kernel_rfl) (by kernel_rfl) (fun _ _ _ h => h) (.inl ⟨by rfl, ?_⟩) (by assumption) ?_
    rotate_left
    · intro W hSw
      (try dsimp only at hSw)
      go_simp
      (try rfl)
    (try simp only [Act.put, List.getElem_toArray, List.getElem_cons_succ, List.getElem_cons_zero, List.setIfInBounds_toArray, List.set_cons_zero, List.set_cons_succ])
    refine wpL_take2 8 (i := 5) (oi := _) (v := ?_) rfl (by kernel_rfl) (by kernel_rfl) (by kernel_rfl) (by kernel_rfl) (fun _ _ _ h => h) (.inl ⟨by rfl, ?_⟩) (by assumption) ?_
    rotate_left
    · intro W hSw
      (try dsimp only at hSw)
      go_simp
      (try rfl)
    (try simp only [Act.put, List.getElem_toArray, List.getElem_cons_succ, List.getElem_cons_zero, List.setIfInBounds_toArray, List.set_cons_zero, List.set_cons_succ])
    refine wpL_ready (rs := [8]) (by kernel_rfl) (by simp) ?_
    refine AllL.cons (o := _) rfl (fun K hK => ?_) AllL.nil
    go_simp
    have hse := set_any key vl false now (.slice An now.length capn) wb.drew (HMb.out.below ((Below.refl wb.heap.size wb).drew)).kn (by have := HLN.out; omega)
    rw [HSVV.out, HSK.out] at hse
    refine hse.mono ?_
    rintro e w6 ⟨lv, rfl, hkl, hb6'⟩
    have hb6 : Below wb.heap.size wb w6 := undrew hb6'
    have hka := hkl.at_
    have HM6 := Lib.hid (HMb.out.below hb6)
    have HP6 := Lib.hid (HPb.out.below hb6)
    have HG6 : Hid (Gk w w6) := HGb.out.trans (Gk.of_below hb6)
    have BE6 := HBE.out.below hb6 HBE.out.lt
    have C6 : Hid (w6.cell? ⟨be, 0, none⟩ = some (.int .i64 (kd : Nat)) ∧ w6.cell? ⟨be, 1, none⟩ = some (.string ⟨#[]⟩) ∧ w6.cell? ⟨be, 2, none⟩ = some (.bool true) ∧ w6.cell? ⟨gx, 3, none⟩ = some (.slice An now.length capn)) := ⟨BE6.cell 0, BE6.cell 1, BE6.cell 2, HM6.out.blk.cell 3⟩
    obtain ⟨Av, capv, rfl, _⟩ := id hka
    have HCH := Lib.hid (pchanged_any HM6.out HP6.out HPR.out hka HLO.out.2)
    unfold errA at HCH
    clear hse hkl hb6' hb6 BE6 hka
    go_wp2_with fail
    refine hK.out _ _ ⟨fun _ => C6.out, trivial⟩ (fun hTill => ?_)
    clear hK K
    (try simp only [Act.put, List.getElem_toArray, List.getElem_cons_succ, List.getElem_cons_zero, List.setIfInBounds_toArray, List.set_cons_zero, List.set_cons_succ])
    refine wpL_ready (rs := [9]) (by kernel_rfl) (by simp) ?_
    refine AllL.cons (o := _) rfl (fun K hK => ?_) AllL.nil
    go_simp
    refine HCH.out.mono ?_
    rintro e w7 ⟨rfl, vn2, now2, hm7, hp7, hn7, hg7⟩
    have HM7 := Lib.hid hm7
    have HP7 := Lib.hid hp7
    have HN7 := Lib.hid hn7
    have HG7 := Lib.hid hg7
    clear hm7 hp7 hn7 hg7
    go_wp2_with fail
    refine hK.out _ _ ⟨fun h => Bool.noConfusion ((show _ = true by kernel_rfl).symm.trans h), trivial⟩ (fun hTill => ?_)
    clear hK K
    (try simp only [Act.put, List.getElem_toArray, List.getElem_cons_succ, List.getElem_cons_zero, List.setIfInBounds_toArray, List.set_cons_zero, List.set_cons_succ])
    refine wpL_take' (i := 10) (oi := _) (v := ?_) rfl (by kernel_rfl) (by kernel_rfl) (by kernel_rfl) (by kernel_rfl) (fun _ _ _ h => h) (.inl ⟨by rfl, ?_⟩) (by assumption) ?_
    rotate_left
    · intro W hSw
      (try dsimp only at hSw)
      go_simp
      (try rfl)
    (try simp only [Act.put, List.getElem_toArray, List.getElem_cons_succ, List.getElem_cons_zero, List.setIfInBounds_toArray, List.set_cons_zero, List.set_cons_succ])
    refine wpL_done (by kernel_rfl) ?_ _
    clear hTill
    go_wp2_with fail
    go_ret
    have hl7 : now2.length ≤ k + 1 := by
      have h1 := HLN.out
      have h2 := HLS.out
      rcases HN7.out with h3 | h3
      · rw [h3]; omega
      · rw [h3.2]; exact h2 h3.1
    exact ⟨rfl, ⟨g, gT, vn2, vs, vx, vD, d, rd', tb', now2, safe, next, sv, HM7.out, HP7.out.later (Nat.le_succ k), HSVT.out, hl7, by have := HLN.out; omega, by have := HLN.out; omega⟩, HG6.out.trans HG7.out⟩
set_option maxHeartbeats 4000000 in
set_option maxRecDepth 100000 in
theorem pact_put1 (gx n k i : Nat) (s : ByteArray) (w : World) (hi : i < s.size) (hss : s.size ≤ 4096) (h : PSt k gx n w) (hn : 16 ≤ n ∧ n ≤ 4096) (hk : k ≤ 4100) (hev : EvAt w) (hge : GE w) (hlo : LO ≤ w.heap.size) (hgx : LO ≤ gx) (hc : s[i].toNat % 6 = 1) :
    Calls Tryz.prog 31 #[.pointer (some ⟨gx, 0, none⟩), .string s, .int .i64 (i : Nat)] w (PAct k gx n w) := by
  obtain ⟨g, gT, vn, vs, vx, vD, d, rd, b, now, safe, next, sv, hm, hp, hsv, l1, l2, l3⟩ := h
  obtain ⟨c, hcc⟩ : ∃ c, s[i] = c := ⟨_, rfl⟩
  rw [hcc] at hc
  obtain ⟨q, hq1, hq2⟩ : ∃ q : Nat, q ≤ 42 ∧ ((c.toNat : Nat) : Int).tdiv 6 = (q : Int) := ⟨c.toNat / 6, by have := c.toNat_lt; omega, by rw [Int.tdiv_eq_ediv_of_nonneg (by omega)]; omega⟩
  have hr : ((c.toNat : Nat) : Int).tmod 6 = 1 := by rw [Int.tmod_eq_emod_of_nonneg (by omega)]; omega
  obtain ⟨m, hm1, hm2⟩ : ∃ m : Nat, m ≤ 12 ∧ (q : Int).tmod 13 = (m : Int) := ⟨q % 13, by omega, by rw [Int.tmod_eq_emod_of_nonneg (by omega)]; omega⟩
  obtain ⟨j, hj1, hj2⟩ : ∃ j : Nat, j < s.size ∧ ((i : Int) + 1).tmod (s.size : Int) = (j : Int) := ⟨(i + 1) % s.size, Nat.mod_lt _ (by omega), by rw [Int.tmod_eq_emod_of_nonneg (by omega)]; simp⟩
  obtain ⟨c2, hc2⟩ : ∃ c, s[j] = c := ⟨_, rfl⟩
  have hi2 : (i : Int) < (s.size : Int) := by omega
  have hj3 : (j : Int) < (s.size : Int) := by omega
  have hs0 : ¬ (s.size : Int) = 0 := by omega
  have hs1 : ((s.size : Int) == 0) = false := by simpa using hs0
  obtain ⟨L, hL⟩ : ∃ L, [UInt8.ofNat (97 + m), c2] = L := ⟨_, rfl⟩
  obtain ⟨key, hkey⟩ : ∃ key : Pl.Key, [107, 101, 121] ++ L = key := ⟨_, rfl⟩
  have hl2 : L.length = 2 := by rw [← hL]; rfl
  have hkl : key.length = 5 := by rw [← hkey, List.length_append, hl2]; rfl
  have hkf : Pl.KeyFit key := ⟨by omega, by omega⟩
  obtain ⟨w1, hw1⟩ : ∃ x, w.alloc (.cells #[.int .u8 (97 + (m : Int)), .int .u8 ((c2.toNat : Nat) : Int)] 5) = x := ⟨_, rfl⟩
  have hb1 : Below w.heap.size w w1 := by rw [← hw1]; exact (Below.refl _ _).alloc (Nat.le_refl _) _
  have hB : BytesAt w1 (some ⟨w.heap.size, 0, none⟩) L := by
    have h1 : Blk w1 w.heap.size 5 [.int .u8 (97 + (m : Int)), .int .u8 ((c2.toNat : Nat) : Int)] := by rw [← hw1]; exact Blk.new w 5 _
    rw [show (97 + (m : Int)) = (((UInt8.ofNat (97 + m)).toNat : Nat) : Int) by rw [UInt8.toNat_ofNat']; omega] at h1
    have h2 := Src.of_blk h1
    rw [← hL]
    exact h2.bytes
  have hcv := run_tostr w1 (some ⟨w.heap.size, 0, none⟩) L 2 hB
  rw [hl2] at hcv
  have hsz := tstr_size L
  rw [hl2] at hsz
  have hcat : (⟨#[107, 101, 121]⟩ ++ tstr L : ByteArray) = tstr key := by rw [← hkey]; simp [tstr, ByteArray.ext_iff]
  obtain ⟨sx, hsx⟩ : ∃ x, tstr L = x := ⟨_, rfl⟩
  rw [hsx] at hcv hsz hcat
  have hkz : (tstr key).size = 5 := by rw [tstr_size, hkl]
  obtain ⟨sk, hsk⟩ : ∃ x, tstr key = x := ⟨_, rfl⟩
  rw [hsk] at hcat hkz
  have hmw : IntKind.u8.wrap (97 + (m : Int)) = 97 + (m : Int) := IntWalk.u8_in _ (by omega)
  have HSK := Lib.hid hsk
  have HKF := Lib.hid (And.intro hkf hkl)
  have HB1 := Lib.hid hb1
  have HM1 := Lib.hid (hm.below hb1)
  have HP1 := Lib.hid (hp.below hb1)
  have HSV := Lib.hid hsv
  have HLN := Lib.hid (And.intro l1 (And.intro l2 l3))
  have HEG : Hid (EvAt w1 ∧ GE w1) := ⟨(Gk.of_below hb1).1 hev, (Gk.of_below hb1).2.1 hge⟩
  have HLO := Lib.hid (And.intro hlo hgx)
  have HG1 := Lib.hid (Gk.of_below hb1)
  obtain ⟨x0, x1, x2, x3, x4, x5, x6, x7, xf⟩ := facts8 (hm.below hb1).blk
  clear hL hkey hl2 hkl hkf hB hsx hsk hb1 hm hp hsv l1 l2 l3 hev hge hlo hgx
  obtain ⟨u, hu1, hu2⟩ : ∃ u : Nat, u ≤ 300 ∧ (q : Int) * 7 = (u : Int) := ⟨q * 7, by omega, by push_cast; rfl⟩
  obtain ⟨z, hz1, hz2⟩ : ∃ z : Nat, z ≤ 100 ∧ (u : Int).tmod 101 = (z : Int) := ⟨u % 101, by omega, by rw [Int.tmod_eq_emod_of_nonneg (by omega)]; omega⟩
  have huw : IntKind.i64.wrap (u : Int) = (u : Int) := IntWalk.i64_in _ (by omega)
  have hmk := make_bytes (z : Int) z rfl (by omega) w1
  obtain ⟨w2, hw2⟩ : ∃ x, w1.alloc (.cells (zrow z).toArray 5) = x := ⟨_, rfl⟩
  have hb2 : Below w1.heap.size w1 w2 := by rw [← hw2]; exact (Below.refl _ _).alloc (Nat.le_refl _) _
  have hzb : BytesAt w2 (some ⟨w1.heap.size, 0, none⟩) (Pl.zeros z) := by rw [← hw2]; exact zeros_at w1 z
  rw [hw2] at hmk
  have hzl : (Pl.zeros z).length = z := by simp [Pl.zeros]
  have hcz1 := run_tostr w2 (some ⟨w1.heap.size, 0, none⟩) (Pl.zeros z) z hzb
  rw [hzl] at hcz1
  obtain ⟨vl, hvl⟩ : ∃ vl : Pl.Key, Pl.zeros z ++ [120] = vl := ⟨_, rfl⟩
  have hvll : vl.length = z + 1 := by rw [← hvl, List.length_append, hzl]; rfl
  have hcat2 : (tstr (Pl.zeros z) ++ ⟨#[120]⟩ : ByteArray) = tstr vl := by rw [← hvl]; simp [tstr, ByteArray.ext_iff]
  have hszz := tstr_size (Pl.zeros z)
  rw [hzl] at hszz
  obtain ⟨sz, hsz3⟩ : ∃ x, tstr (Pl.zeros z) = x := ⟨_, rfl⟩
  rw [hsz3] at hcz1 hcat2 hszz
  have hsvs : (tstr vl).size = z + 1 := by rw [tstr_size, hvll]
  obtain ⟨sv1, hsv1⟩ : ∃ x, tstr vl = x := ⟨_, rfl⟩
  rw [hsv1] at hcat2 hsvs
  have HB12 := Lib.hid hb2
  have HM2 := Lib.hid (HM1.out.below hb2)
  have HSRT : Hid (b = false → Pl.Srt now) := fun e => (HP1.out.good e).srt
  clear x0 x1 x2 x3 x4 x5 x6 x7 xf
  obtain ⟨An, capn, rfl, _⟩ := id HM1.out.kn
  by_cases hz : z = 100
  · have hgt : (100 : Int) < ((z + 1 : Nat) : Int) := by omega
    have hgt2 : (100 : Int) < (z : Int) + 1 := by omega
    have HSVV : Hid (tstr [121] = (⟨#[121]⟩ : ByteArray)) := rfl
    have HVL : Hid (([121] : Pl.Key).length ≤ 100 ∧ ([121] : Pl.Key).length = 1) := ⟨by decide, rfl⟩
    clear hz hw2 hb2 hzb hzl hvl hvll hsz3 hsv1
    have hcv2 := run_tobytes w2 sk
    rw [hkz] at hcv2
    obtain ⟨cz, hcz⟩ : ∃ x, grownCap w2 5 0 5 = x := ⟨_, rfl⟩
    rw [hcz] at hcv2
    obtain ⟨w3, hw3⟩ : ∃ x, w2.drew.alloc (bytesObj sk cz) = x := ⟨_, rfl⟩
    have hb3 : Below w2.heap.size w2 w3 := by rw [← hw3]; exact ((Below.refl w2.heap.size w2).drew).alloc (Nat.le_refl _) _
    have hat : BytesAt w3 (some ⟨w2.heap.size, 0, none⟩) key := by
      have h1 : BytesAt w3 (some ⟨w2.heap.size, 0, none⟩) sk.data.toList := bytesObj_at (cap := cz) (by rw [← hw3]; exact heap_alloc_new w2.drew _)
      rw [← HSK.out] at h1
      simpa [tstr] using h1
    rw [hw3] at hcv2
    have hcv3 := run_tobytes w3 (⟨#[121]⟩ : ByteArray)
    rw [show ((⟨#[121]⟩ : ByteArray) : ByteArray).size = 1 from rfl] at hcv3
    obtain ⟨cy, hcy⟩ : ∃ x, grownCap w3 1 0 5 = x := ⟨_, rfl⟩
    rw [hcy] at hcv3
    obtain ⟨w4, hw4⟩ : ∃ x, w3.drew.alloc (bytesObj (⟨#[121]⟩ : ByteArray) cy) = x := ⟨_, rfl⟩
    have hb4 : Below w3.heap.size w3 w4 := by rw [← hw4]; exact ((Below.refl w3.heap.size w3).drew).alloc (Nat.le_refl _) _
    have hav : BytesAt w4 (some ⟨w3.heap.size, 0, none⟩) [121] := by
      have h1 : BytesAt w4 (some ⟨w3.heap.size, 0, none⟩) ((⟨#[121]⟩ : ByteArray) : ByteArray).data.toList := bytesObj_at (cap := cy) (by rw [← hw4]; exact heap_alloc_new w3.drew _)
      rw [show ((⟨#[121]⟩ : ByteArray) : ByteArray) = tstr [121] from (HSVV.out).symm] at h1
      simpa [tstr] using h1
    rw [hw4] at hcv3
    have hb14 : Below w1.heap.size w1 w4 := HB12.out.trans ((hb3.trans (hb4.mono hb3.size)).mono HB12.out.size)
    have hta := pt_put (HP1.out.below hb14) hn (by have := HLN.out; omega) ((Gk.of_below hb14).1 HEG.out.1) ((Gk.of_below hb14).2.1 HEG.out.2) key [121] HKF.out.1 HVL.out.1 _ _ cz cy (hat.keep hb4) hav
    rw [HKF.out.2, HVL.out.2] at hta
    have HTA := Lib.hid hta
    have HM4 := Lib.hid (HM1.out.below hb14)
    have HG4 : Hid (Gk w w4) := HG1.out.trans (Gk.of_below hb14)
    clear hcz hw3 hb3 hat hcy hw4 hb4 hav hb14 hta
    obtain ⟨x0, x1, x2, x3, x4, x5, x6, x7, xf⟩ := facts8 HM2.out.blk
    go_enter Tryz.func31, Tryz.ntmps31
    go_wp2_with fail
    refine HTA.out.mono ?_
    rintro e w5 ⟨kd, tb', now', rd', rfl, hpr, hp5, hfr5⟩
    have HM5 := Lib.hid (HM4.out.hfr hfr5)
    have HP5 := Lib.hid hp5
    have HG5 : Hid (Gk w w5) := HG4.out.trans hfr5.gk
    have HPR := Lib.hid hpr
    obtain ⟨wb, hwb⟩ : ∃ x, w5.alloc (.cells #[.int .i64 (kd : Nat), .string ⟨#[]⟩, .bool true] 28) = x := ⟨_, rfl⟩
    have hbb : Below w5.heap.size w5 wb := by rw [← hwb]; exact (Below.refl _ _).alloc (Nat.le_refl _) _
    obtain ⟨be, hbe⟩ : ∃ x, w5.heap.size = x := ⟨_, rfl⟩
    have Bbe : Blk wb be 28 [.int .i64 (kd : Nat), .string ⟨#[]⟩, .bool true] := by rw [← hwb, ← hbe]; exact Blk.new w5 28 _
    have HMb := Lib.hid (HM5.out.below hbb)
    have HPb := Lib.hid (HP5.out.below hbb)
    have HGb : Hid (Gk w wb) := HG5.out.trans (Gk.of_below hbb)
    have HBE := Lib.hid Bbe
    have HSVT : Hid (tb' = false → sv = false) := fun e => by
      rcases HPR.out with ⟨_, h, _⟩ | ⟨_, h, _⟩ | ⟨_, h⟩
      · exact HSV.out h
      · exact HSV.out h
      · rw [h] at e; cases e
    have HLS : Hid (b = false → (Pl.setL key [121] false now).length ≤ k + 1) := fun e => by
      have h1 := setL_len (key := key) (v := [121]) (HSRT.out e)
      have h2 := HLN.out
      omega
    clear x0 x1 x2 x3 x4 x5 x6 x7 xf hp5 hfr5 hpr hbb Bbe
    unfold errA
    go_wp2_with fail
    have C5 : Hid (wb.cell? ⟨be, 0, none⟩ = some (.int .i64 (kd : Nat)) ∧ wb.cell? ⟨be, 1, none⟩ = some (.string ⟨#[]⟩) ∧ wb.cell? ⟨be, 2, none⟩ = some (.bool true) ∧ wb.cell? ⟨gx, 3, none⟩ = some (.slice An now.length capn)) := ⟨HBE.out.cell 0, HBE.out.cell 1, HBE.out.cell 2, HMb.out.blk.cell 3⟩
    refine wp_region_L 9 (fun W => W.cell? ⟨be, 0, none⟩ = some (.int .i64 (kd : Nat)) ∧ W.cell? ⟨be, 1, none⟩ = some (.string ⟨#[]⟩) ∧ W.cell? ⟨be, 2, none⟩ = some (.bool true) ∧ W.cell? ⟨gx, 3, none⟩ = some (.slice An now.length capn)) (fun _ => True) (by kernel_rfl) C5.out trivial (fun hTill => ?_)
    refine wpL_take' (i := 0) (oi := _) (v := ?_) rfl (by kernel_rfl) (by kernel_rfl) (by kernel_rfl) (by kernel_rfl) (fun _ _ _ h => h) (.inl ⟨by rfl, ?_⟩) (by assumption) ?_
    rotate_left
    · intro W hSw
      (try dsimp only at hSw)
      go_simp
      (try rfl)
    (try simp only [Act.put, List.getElem_toArray, List.getElem_cons_succ, List.getElem_cons_zero, List.setIfInBounds_toArray, List.set_cons_zero, List.set_cons_succ])
    refine wpL_take' (i := 2) (oi := _) (v := ?_) rfl (by kernel_rfl) (by kernel_rfl) (by kernel_rfl) (by kernel_rfl) (fun _ _ _ h => h) (.inl ⟨by rfl, ?_⟩) (by assumption) ?_
    rotate_left
    · intro W hSw
      (try dsimp only at hSw)
      go_simp
      (try rfl)
    (try simp only [Act.put, List.getElem_toArray, List.getElem_cons_succ, List.getElem_cons_zero, List.setIfInBounds_toArray, List.set_cons_zero, List.set_cons_succ])
    refine wpL_take' (i := 3) (oi := _) (v := ?_) rfl (by kernel_rfl) (by kernel_rfl) (by kernel_rfl) (by kernel_rfl) (fun _ _ _ h => h) (.inl ⟨by rfl, ?_⟩) (by assumption) ?_
    rotate_left
    · intro W hSw
      (try dsimp only at hSw)
      go_simp
      (try rfl)
    (try simp only [Act.put, List.getElem_toArray, List.getElem_cons_succ, List.getElem_cons_zero, List.setIfInBounds_toArray, List.set_cons_zero, List.set_cons_succ])
    refine wpL_take' (i := 4) (oi := _) (v := ?_) rfl (by kernel_rfl) (by kernel_rfl) (by kernel_rfl) (by kernel_rfl) (fun _ _ _ h => h) (.inl ⟨by rfl, ?_⟩) (by assumption) ?_
    rotate_left
    · intro W hSw
      (try dsimp only at hSw)
      go_simp
      (try rfl)
    (try simp only [Act.put, List.getElem_toArray, List.getElem_cons_succ, List.getElem_cons_zero, List.setIfInBounds_toArray, List.set_cons_zero, List.set_cons_succ])
    refine wpL_take' (i := 6) (oi := _) (v := ?_) rfl (by kernel_rfl) (by kernel_rfl) (by kernel_rfl) (by kernel_rfl) (fun _ _ _ h => h) (.inl ⟨by rfl, ?_⟩) (by assumption) ?_
    rotate_left
    · intro W hSw
      (try dsimp only at hSw)
      go_simp
      (try rfl)
    (try simp only [Act.put, List.getElem_toArray, List.getElem_cons_succ, List.getElem_cons_zero, List.setIfInBounds_toArray, List.set_cons_zero, List.set_cons_succ])
    refine wpL_take' (i := 7) (oi := _) (v := ?_) rfl (by kernel_rfl) (by kernel_rfl) (by kernel_rfl) (by kernel_rfl) (fun _ _ _ h => h) (.inl ⟨by rfl, ?_⟩) (by assumption) ?_
    rotate_left
    · intro W hSw
      (try dsimp only at hSw)
      go_simp
      (try rfl)
    (try simp only [Act.put, List.getElem_toArray, List.getElem_cons_succ, List.getElem_cons_zero, List.setIfInBounds_toArray, List.set_cons_zero, List.set_cons_succ])
    refine wpL_take (i := 1) (oi := _) (v := ?_) rfl (by kernel_rfl) (by kernel_rfl) (by kernel_rfl) (by kernel_rfl) (fun _ _ _ h => h) (.inl ⟨by rfl, ?_⟩) (by assumption) ?_
    rotate_left
    · intro W hSw
      (try dsimp only at hSw)
      go_simp
      (try rfl)
    (try simp only [Act.put, List.getElem_toArray, List.getElem_cons_succ, List.getElem_cons_zero, List.setIfInBounds_toArray, List.set_cons_zero, List.set_cons_succ])
    refine wpL_take2 8 (i := 5) (oi := _) (v := ?_) rfl (by kernel_rfl) (by kernel_rfl) (by kernel_rfl) (by kernel_rfl) (fun _ _ _ h => h) (.inl ⟨by rfl, ?_⟩) (by assumption) ?_
    rotate_left
    · intro W hSw
      (try dsimp only at hSw)
      go_simp
      (try rfl)
    (try simp only [Act.put, List.getElem_toArray, List.getElem_cons_succ, List.getElem_cons_zero, List.setIfInBounds_toArray, List.set_cons_zero, List.set_cons_succ])
    refine wpL_ready (rs := [8]) (by kernel_rfl) (by simp) ?_
    refine AllL.cons (o := _) rfl (fun K hK => ?_) AllL.nil
    go_simp
    have hse := set_any key [121] false now (.slice An now.length capn) wb.drew (HMb.out.below ((Below.refl wb.heap.size wb).drew)).kn (by have := HLN.out; omega)
    rw [HSVV.out, HSK.out] at hse
    refine hse.mono ?_
    rintro e w6 ⟨lv, rfl, hkl, hb6'⟩
    have hb6 : Below wb.heap.size wb w6 := undrew hb6'
    have hka := hkl.at_
    have HM6 := Lib.hid (HMb.out.below hb6)
    have HP6 := Lib.hid (HPb.out.below hb6)
    have HG6 : Hid (Gk w w6) := HGb.out.trans (Gk.of_below hb6)
    have BE6 := HBE.out.below hb6 HBE.out.lt
    have C6 : Hid (w6.cell? ⟨be, 0, none⟩ = some (.int .i64 (kd : Nat)) ∧ w6.cell? ⟨be, 1, none⟩ = some (.string ⟨#[]⟩) ∧ w6.cell? ⟨be, 2, none⟩ = some (.bool true) ∧ w6.cell? ⟨gx, 3, none⟩ = some (.slice An now.length capn)) := ⟨BE6.cell 0, BE6.cell 1, BE6.cell 2, HM6.out.blk.cell 3⟩
    obtain ⟨Av, capv, rfl, _⟩ := id hka
    have HCH := Lib.hid (pchanged_any HM6.out HP6.out HPR.out hka HLO.out.2)
    unfold errA at HCH
    clear hse hkl hb6' hb6 BE6 hka
    go_wp2_with fail
    refine hK.out _ _ ⟨fun _ => C6.out, trivial⟩ (fun hTill => ?_)
    clear hK K
    (try simp only [Act.put, List.getElem_toArray, List.getElem_cons_succ, List.getElem_cons_zero, List.setIfInBounds_toArray, List.set_cons_zero, List.set_cons_succ])
    refine wpL_ready (rs := [9]) (by kernel_rfl) (by simp) ?_
    refine AllL.cons (o := _) rfl (fun K hK => ?_) AllL.nil
    go_simp
    refine HCH.out.mono ?_
    rintro e w7 ⟨rfl, vn2, now2, hm7, hp7, hn7, hg7⟩
    have HM7 := Lib.hid hm7
    have HP7 := Lib.hid hp7
    have HN7 := Lib.hid hn7
    have HG7 := Lib.hid hg7
    clear hm7 hp7 hn7 hg7
    go_wp2_with fail
    refine hK.out _ _ ⟨fun h => Bool.noConfusion ((show _ = true by kernel_rfl).symm.trans h), trivial⟩ (fun hTill => ?_)
    clear hK K
    (try simp only [Act.put, List.getElem_toArray, List.getElem_cons_succ, List.getElem_cons_zero, List.setIfInBounds_toArray, List.set_cons_zero, List.set_cons_succ])
    refine wpL_take' (i := 10) (oi := _) (v := ?_) rfl (by kernel_rfl) (by kernel_rfl) (by kernel_rfl) (by kernel_rfl) (fun _ _ _ h => h) (.inl ⟨by rfl, ?_⟩) (by assumption) ?_
    rotate_left
    · intro W hSw
      (try dsimp only at hSw)
      go_simp
      (try rfl)
    (try simp only [Act.put, List.getElem_toArray, List.getElem_cons_succ, List.getElem_cons_zero, List.setIfInBounds_toArray, List.set_cons_zero, List.set_cons_succ])
    refine wpL_done (by kernel_rfl) ?_ _
    clear hTill
    go_wp2_with fail
    go_ret
    have hl7 : now2.length ≤ k + 1 := by
      have h1 := HLN.out
      have h2 := HLS.out
      rcases HN7.out with h3 | h3
      · rw [h3]; omega
      · rw [h3.2]; exact h2 h3.1
    exact ⟨rfl, ⟨g, gT, vn2, vs, vx, vD, d, rd', tb', now2, safe, next, sv, HM7.out, HP7.out.later (Nat.le_succ k), HSVT.out, hl7, by have := HLN.out; omega, by have := HLN.out; omega⟩, HG6.out.trans HG7.out⟩
  · have hgt : ¬ (100 : Int) < ((z + 1 : Nat) : Int) := by omega
    have hgt2 : ¬ (100 : Int) < (z : Int) + 1 := by omega
    have HSVV : Hid (tstr vl = sv1) := hsv1
    have HVL : Hid (vl.length ≤ 100 ∧ vl.length = z + 1) := ⟨by omega, hvll⟩
    clear hz hw2 hb2 hzb hzl hvl hvll hsz3 hsv1
    have hcv2 := run_tobytes w2 sk
    rw [hkz] at hcv2
    obtain ⟨cz, hcz⟩ : ∃ x, grownCap w2 5 0 5 = x := ⟨_, rfl⟩
    rw [hcz] at hcv2
    obtain ⟨w3, hw3⟩ : ∃ x, w2.drew.alloc (bytesObj sk cz) = x := ⟨_, rfl⟩
    have hb3 : Below w2.heap.size w2 w3 := by rw [← hw3]; exact ((Below.refl w2.heap.size w2).drew).alloc (Nat.le_refl _) _
    have hat : BytesAt w3 (some ⟨w2.heap.size, 0, none⟩) key := by
      have h1 : BytesAt w3 (some ⟨w2.heap.size, 0, none⟩) sk.data.toList := bytesObj_at (cap := cz) (by rw [← hw3]; exact heap_alloc_new w2.drew _)
      rw [← HSK.out] at h1
      simpa [tstr] using h1
    rw [hw3] at hcv2
    have hcv3 := run_tobytes w3 sv1
    rw [show (sv1 : ByteArray).size = (z + 1) from hsvs] at hcv3
    obtain ⟨cy, hcy⟩ : ∃ x, grownCap w3 (z + 1) 0 5 = x := ⟨_, rfl⟩
    rw [hcy] at hcv3
    obtain ⟨w4, hw4⟩ : ∃ x, w3.drew.alloc (bytesObj sv1 cy) = x := ⟨_, rfl⟩
    have hb4 : Below w3.heap.size w3 w4 := by rw [← hw4]; exact ((Below.refl w3.heap.size w3).drew).alloc (Nat.le_refl _) _
    have hav : BytesAt w4 (some ⟨w3.heap.size, 0, none⟩) vl := by
      have h1 : BytesAt w4 (some ⟨w3.heap.size, 0, none⟩) (sv1 : ByteArray).data.toList := bytesObj_at (cap := cy) (by rw [← hw4]; exact heap_alloc_new w3.drew _)
      rw [show (sv1 : ByteArray) = tstr vl from (HSVV.out).symm] at h1
      simpa [tstr] using h1
    rw [hw4] at hcv3
    have hb14 : Below w1.heap.size w1 w4 := HB12.out.trans ((hb3.trans (hb4.mono hb3.size)).mono HB12.out.size)
    have hta := pt_put (HP1.out.below hb14) hn (by have := HLN.out; omega) ((Gk.of_below hb14).1 HEG.out.1) ((Gk.of_below hb14).2.1 HEG.out.2) key vl HKF.out.1 HVL.out.1 _ _ cz cy (hat.keep hb4) hav
    rw [HKF.out.2, HVL.out.2] at hta
    have HTA := Lib.hid hta
    have HM4 := Lib.hid (HM1.out.below hb14)
    have HG4 : Hid (Gk w w4) := HG1.out.trans (Gk.of_below hb14)
    clear hcz hw3 hb3 hat hcy hw4 hb4 hav hb14 hta
    obtain ⟨x0, x1, x2, x3, x4, x5, x6, x7, xf⟩ := facts8 HM2.out.blk
    go_enter Tryz.func31, Tryz.ntmps31
    go_wp2_with fail
    refine HTA.out.mono ?_
    rintro e w5 ⟨kd, tb', now', rd', rfl, hpr, hp5, hfr5⟩
    have HM5 := Lib.hid (HM4.out.hfr hfr5)
    have HP5 := Lib.hid hp5
    have HG5 : Hid (Gk w w5) := HG4.out.trans hfr5.gk
    have HPR := Lib.hid hpr
    obtain ⟨wb, hwb⟩ : ∃ x, w5.alloc (.cells #[.int .i64 (kd : Nat), .string ⟨#[]⟩, .bool true] 28) = x := ⟨_, rfl⟩
    have hbb : Below w5.heap.size w5 wb := by rw [← hwb]; exact (Below.refl _ _).alloc (Nat.le_refl _) _
    obtain ⟨be, hbe⟩ : ∃ x, w5.heap.size = x := ⟨_, rfl⟩
    have Bbe : Blk wb be 28 [.int .i64 (kd : Nat), .string ⟨#[]⟩, .bool true] := by rw [← hwb, ← hbe]; exact Blk.new w5 28 _
    have HMb := Lib.hid (HM5.out.below hbb)
    have HPb := Lib.hid (HP5.out.below hbb)
    have HGb : Hid (Gk w wb) := HG5.out.trans (Gk.of_below hbb)
    have HBE := Lib.hid Bbe
    have HSVT : Hid (tb' = false → sv = false) := fun e => by
      rcases HPR.out with ⟨_, h, _⟩ | ⟨_, h, _⟩ | ⟨_, h⟩
      · exact HSV.out h
      · exact HSV.out h
      · rw [h] at e; cases e
    have HLS : Hid (b = false → (Pl.setL key vl false now).length ≤ k + 1) := fun e => by
      have h1 := setL_len (key := key) (v := vl) (HSRT.out e)
      have h2 := HLN.out
      omega
    clear x0 x1 x2 x3 x4 x5 x6 x7 xf hp5 hfr5 hpr hbb Bbe
    unfold errA
    go_wp2_with fail
    have C5 : Hid (wb.cell? ⟨be, 0, none⟩ = some (.int .i64 (kd : Nat)) ∧ wb.cell? ⟨be, 1, none⟩ = some (.string ⟨#[]⟩) ∧ wb.cell? ⟨be, 2, none⟩ = some (.bool true) ∧ wb.cell? ⟨gx, 3, none⟩ = some (.slice An now.length capn)) := ⟨HBE.out.cell 0, HBE.out.cell 1, HBE.out.cell 2, HMb.out.blk.cell 3⟩
    refine wp_region_L 9 (fun W => W.cell? ⟨be, 0, none⟩ = some (.int .i64 (kd : Nat)) ∧ W.cell? ⟨be, 1, none⟩ = some (.string ⟨#[]⟩) ∧ W.cell? ⟨be, 2, none⟩ = some (.bool true) ∧ W.cell? ⟨gx, 3, none⟩ = some (.slice An now.length capn)) (fun _ => True) (by kernel_rfl) C5.out trivial (fun hTill => ?_)
    refine wpL_take' (i := 0) (oi := _) (v := ?_) rfl (by kernel_rfl) (by kernel_rfl) (by kernel_rfl) (by kernel_rfl) (fun _ _ _ h => h) (.inl ⟨by rfl, ?_⟩) (by assumption) ?_
    rotate_left
    · intro W hSw
      (try dsimp only at hSw)
      go_simp
      (try rfl)
    (try simp only [Act.put, List.getElem_toArray, List.getElem_cons_succ, List.getElem_cons_zero, List.setIfInBounds_toArray, List.set_cons_zero, List.set_cons_succ])
    refine wpL_take' (i := 2) (oi := _) (v := ?_) rfl (by kernel_rfl) (by kernel_rfl) (by kernel_rfl) (by kernel_rfl) (fun _ _ _ h => h) (.inl ⟨by rfl, ?_⟩) (by assumption) ?_
    rotate_left
    · intro W hSw
      (try dsimp only at hSw)
      go_simp
      (try rfl)
    (try simp only [Act.put, List.getElem_toArray, List.getElem_cons_succ, List.getElem_cons_zero, List.setIfInBounds_toArray, List.set_cons_zero, List.set_cons_succ])
    refine wpL_take' (i := 3) (oi := _) (v := ?_) rfl (by kernel_rfl) (by kernel_rfl) (by kernel_rfl) (by kernel_rfl) (fun _ _ _ h => h) (.inl ⟨by rfl, ?_⟩) (by assumption) ?_
    rotate_left
    · intro W hSw
      (try dsimp only at hSw)
      go_simp
      (try rfl)
    (try simp only [Act.put, List.getElem_toArray, List.getElem_cons_succ, List.getElem_cons_zero, List.setIfInBounds_toArray, List.set_cons_zero, List.set_cons_succ])
    refine wpL_take' (i := 4) (oi := _) (v := ?_) rfl (by kernel_rfl) (by kernel_rfl) (by kernel_rfl) (by kernel_rfl) (fun _ _ _ h => h) (.inl ⟨by rfl, ?_⟩) (by assumption) ?_
    rotate_left
    · intro W hSw
      (try dsimp only at hSw)
      go_simp
      (try rfl)
    (try simp only [Act.put, List.getElem_toArray, List.getElem_cons_succ, List.getElem_cons_zero, List.setIfInBounds_toArray, List.set_cons_zero, List.set_cons_succ])
    refine wpL_take' (i := 6) (oi := _) (v := ?_) rfl (by kernel_rfl) (by kernel_rfl) (by kernel_rfl) (by kernel_rfl) (fun _ _ _ h => h) (.inl ⟨by rfl, ?_⟩) (by assumption) ?_
    rotate_left
    · intro W hSw
      (try dsimp only at hSw)
      go_simp
      (try rfl)
    (try simp only [Act.put, List.getElem_toArray, List.getElem_cons_succ, List.getElem_cons_zero, List.setIfInBounds_toArray, List.set_cons_zero, List.set_cons_succ])
    refine wpL_take' (i := 7) (oi := _) (v := ?_) rfl (by kernel_rfl) (by kernel_rfl) (by kernel_rfl) (by kernel_rfl) (fun _ _ _ h => h) (.inl ⟨by rfl, ?_⟩) (by assumption) ?_
    rotate_left
    · intro W hSw
      (try dsimp only at hSw)
      go_simp
      (try rfl)
    (try simp only [Act.put, List.getElem_toArray, List.getElem_cons_succ, List.getElem_cons_zero, List.setIfInBounds_toArray, List.set_cons_zero, List.set_cons_succ])
    refine wpL_take (i := 1) (oi := _) (v := ?_) rfl (by kernel_rfl) (by kernel_rfl) (by kernel_rfl) (by kernel_rfl) (fun _ _ _ h => h) (.inl ⟨by rfl, ?_⟩) (by assumption) ?_
    rotate_left
    · intro W hSw
      (try dsimp only at hSw)
      go_simp
      (try rfl)
    (try simp only [Act.put, List.getElem_toArray, List.getElem_cons_succ, List.getElem_cons_zero, List.setIfInBounds_toArray, List.set_cons_zero, List.set_cons_succ])
    refine wpL_take2 8 (i := 5) (oi := _) (v := ?_) rfl (by kernel_rfl) (by kernel_rfl) (by kernel_rfl) (by kernel_rfl) (fun _ _ _ h => h) (.inl ⟨by rfl, ?_⟩) (by assumption) ?_
    rotate_left
    · intro W hSw
      (try dsimp only at hSw)
      go_simp
      (try rfl)
    (try simp only [Act.put, List.getElem_toArray, List.getElem_cons_succ, List.getElem_cons_zero, List.setIfInBounds_toArray, List.set_cons_zero, List.set_cons_succ])
    refine wpL_ready (rs := [8]) (by kernel_rfl) (by simp) ?_
    refine AllL.cons (o := _) rfl (fun K hK => ?_) AllL.nil
    go_simp
    have hse := set_any key vl false now (.slice An now.length capn) wb.drew (HMb.out.below ((Below.refl wb.heap.size wb).drew)).kn (by have := HLN.out; omega)
    rw [HSVV.out, HSK.out] at hse
    refine hse.mono ?_
    rintro e w6 ⟨lv, rfl, hkl, hb6'⟩
    have hb6 : Below wb.heap.size wb w6 := undrew hb6'
    have hka := hkl.at_
    have HM6 := Lib.hid (HMb.out.below hb6)
    have HP6 := Lib.hid (HPb.out.below hb6)
    have HG6 : Hid (Gk w w6) := HGb.out.trans (Gk.of_below hb6)
    have BE6 := HBE.out.below hb6 HBE.out.lt
    have C6 : Hid (w6.cell? ⟨be, 0, none⟩ = some (.int .i64 (kd : Nat)) ∧ w6.cell? ⟨be, 1, none⟩ = some (.string ⟨#[]⟩) ∧ w6.cell? ⟨be, 2, none⟩ = some (.bool true) ∧ w6.cell? ⟨gx, 3, none⟩ = some (.slice An now.length capn)) := ⟨BE6.cell 0, BE6.cell 1, BE6.cell 2, HM6.out.blk.cell 3⟩
    obtain ⟨Av, capv, rfl, _⟩ := id hka
    have HCH := Lib.hid (pchanged_any HM6.out HP6.out HPR.out hka HLO.out.2)
    unfold errA at HCH
    clear hse hkl hb6' hb6 BE6 hka
    go_wp2_with fail
    refine hK.out _ _ ⟨fun _ => C6.out, trivial⟩ (fun hTill => ?_)
    clear hK K
    (try simp only [Act.put, List.getElem_toArray, List.getElem_cons_succ, List.getElem_cons_zero, List.setIfInBounds_toArray, List.set_cons_zero, List.set_cons_succ])
    refine wpL_ready (rs := [9]) (by kernel_rfl) (by simp) ?_
    refine AllL.cons (o := _) rfl (fun K hK => ?_) AllL.nil
    go_simp
    refine HCH.out.mono ?_
    rintro e w7 ⟨rfl, vn2, now2, hm7, hp7, hn7, hg7⟩
    have HM7 := Lib.hid hm7
    have HP7 := Lib.hid hp7
    have HN7 := Lib.hid hn7
    have HG7 := Lib.hid hg7
    clear hm7 hp7 hn7 hg7
    go_wp2_with fail
    refine hK.out _ _ ⟨fun h => Bool.noConfusion ((show _ = true by kernel_rfl).symm.trans h), trivial⟩ (fun hTill => ?_)
    clear hK K
    (try simp only [Act.put, List.getElem_toArray, List.getElem_cons_succ, List.getElem_cons_zero, List.setIfInBounds_toArray, List.set_cons_zero, List.set_cons_succ])
    refine wpL_take' (i := 10) (oi := _) (v := ?_) rfl (by kernel_rfl) (by kernel_rfl) (by kernel_rfl) (by kernel_rfl) (fun _ _ _ h => h) (.inl ⟨by rfl, ?_⟩) (by assumption) ?_
    rotate_left
    · intro W hSw
      (try dsimp only at hSw)
      go_simp
      (try rfl)
    (try simp only [Act.put, List.getElem_toArray, List.getElem_cons_succ, List.getElem_cons_zero, List.setIfInBounds_toArray, List.set_cons_zero, List.set_cons_succ])
    refine wpL_done (by kernel_rfl) ?_ _
    clear hTill
    go_wp2_with fail
    go_ret
    have hl7 : now2.length ≤ k + 1 := by
      have h1 := HLN.out
      have h2 := HLS.out
      rcases HN7.out with h3 | h3
      · rw [h3]; omega
      · rw [h3.2]; exact h2 h3.1
    exact ⟨rfl, ⟨g, gT, vn2, vs, vx, vD, d, rd', tb', now2, safe, next, sv, HM7.out, HP7.out.later (Nat.le_succ k), HSVT.out, hl7, by have := HLN.out; omega, by have := HLN.out; omega⟩, HG6.out.trans HG7.out⟩
end Go.Proofs.YtljmklohgpaopaaGreatDoor
