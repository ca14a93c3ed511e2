/- The walk of the reference's Attested. -/
import Derived.Test.YtljmklohgpaopaaDoorMgLogs9
import Derived.Deep.RegionWith

namespace Go.Proofs.YtljmklohgpaopaaDoor
open Go.RowKit

theorem curTake_at {o : Option Pl.Ev} {f : List UInt8 → List UInt8 → Option Pl.Ev} (g n : Nat) (ni : Int) (l : List UInt8) (bad : Bool) (w : World) (h : Cur w g l bad) (hni : ni = n) (hn : n ≤ 281474976710656) (hs : Pl.St o bad (Pl.bt n l f)) :
    Calls Tryd.prog 32 #[.pointer (some ⟨g, 0, none⟩), .int .i64 ni] w fun e w' => ∃ t l' bad', e = .returned (.string (tstr t)) ∧ t.length = n ∧ Cur w' g l' bad' ∧ w.grownBy w' (some g) ∧ Pl.St o bad' (f t l') := by
  subst hni
  exact curTake_st g n l bad w h hn hs
def RefPost (w : World) (l : List UInt8) (more : Int) (g : Nat) (e : Ending) (w' : World) : Prop :=
  ∃ txt ok, e = .returned (.tuple #[.string (tstr txt), .bool ok]) ∧ (ok = true → Pl.attested l more g = some txt) ∧ (ok = false → Pl.attested l more g = none) ∧ Below w.heap.size w w'
theorem RefPost.no {w w' : World} {l : List UInt8} {more : Int} {g : Nat} (h : Pl.attested l more g = none) (hb : Below w.heap.size w w') : RefPost w l more g (.returned (.tuple #[.string ⟨#[]⟩, .bool false])) w' :=
  ⟨[], false, rfl, fun h => (by cases h), fun _ => h, hb⟩
theorem run_onestr (c : Nat) (hc : c < 256) (w : World) : (convert 23 9 (.slice (some ⟨w.heap.size, 0, none⟩) 1 1)).run Tryd.prog (w.alloc (.cells #[.int .u8 (c : Int)] 5)) = .ok (.string (tstr [UInt8.ofNat c])) (w.alloc (.cells #[.int .u8 (c : Int)] 5)) := by
  have hb : BytesAt (w.alloc (.cells #[.int .u8 (c : Int)] 5)) (some ⟨w.heap.size, 0, none⟩) [UInt8.ofNat c] := by
    refine Src.bytes ?_
    have h : bv [UInt8.ofNat c] = [Value.int .u8 (c : Int)] := by
      simp [bv]
      omega
    rw [h]
    exact Src.of_blk (Blk.new _ _ _)
  exact run_tostr _ _ [UInt8.ofNat c] 1 hb
theorem onestr_bytes (c : Nat) (hc : c < 256) (w : World) : BytesAt (w.alloc (.cells #[.int .u8 (c : Int)] 5)) (some ⟨w.heap.size, 0, none⟩) [UInt8.ofNat c] := by
  refine Src.bytes ?_
  have h : bv [UInt8.ofNat c] = [Value.int .u8 (c : Int)] := by
    simp [bv]
    omega
  rw [h]
  exact Src.of_blk (Blk.new _ _ _)
theorem pstr_groups (l : List UInt8) (h : l.length % 4 = 0) : pstr (Pl.groups l) = tstr l := by
  show tstr (Pl.ptext (Pl.groups l)) = tstr l
  rw [Pl.groups_text, List.take_of_length_le (by omega)]

set_option maxHeartbeats 4000000 in
set_option maxRecDepth 100000 in
theorem refAttested_any (more : Int) (g : Nat) (l : List UInt8) (w : World) (hto : more ≤ 9223372036854775807) (hgg : g < 4294967296) (hm : l.length ≤ 140737488351232) :
    Calls Tryd.prog 13 #[.string (tstr l), .int .i64 more, .string (hstr g)] w (RefPost w l more g) := by
  obtain ⟨w0, hw0⟩ : ∃ w0, w.alloc (.cells #[.string (tstr l), .bool false] 84) = w0 := ⟨_, rfl⟩
  obtain ⟨gC, hgC⟩ : ∃ gC, w.heap.size = gC := ⟨_, rfl⟩
  have hC0 : Cur w0 gC l false := ⟨hm, by rw [← hw0, ← hgC]; exact Blk.new _ _ _⟩
  have hbel : Below w.heap.size w w0 := by rw [← hw0]; exact (Below.refl _ _).alloc (Nat.le_refl _) _
  have HGC := Lib.hid hgC
  rw [hgC] at hbel
  have HO := Lib.hid hbel
  have hs0 : Pl.St (Pl.parse l) false (Pl.parse l) := Pl.St.start _
  unfold Pl.parse at hs0
  have HS0 : Hid (Pl.St (Pl.parse l) false _) := hs0
  obtain ⟨st, hst⟩ : ∃ st, tstr l = st := ⟨_, rfl⟩
  rw [hst] at hw0 ⊢
  have hlt0 : gC < w0.heap.size := hC0.2.lt
  clear hbel hs0 hst
  go_enter Tryd.func13, Tryd.ntmps13
  go_wp2_with fail
  clear hgC
  refine (curNum_st gC 4 l false w0 hC0 (by omega) HS0.out).mono ?_
  rintro e w1 ⟨t1, l1, b1, rfl, ht1, hC1, hg1, hs1⟩
  have HS1 := Lib.hid hs1
  have HO1 := Lib.hid (HO.out.grown hg1 (by rw [← HGC.out]; exact HO.out.size) (fun k hk => by cases hk; exact Nat.le_refl _))
  clear hs1 hg1
  go_wp2_with fail
  refine (curNum_st gC 1 l1 b1 w1 hC1 (by omega) HS1.out).mono ?_
  rintro e w2 ⟨t2, l2, b2, rfl, ht2, hC2, hg2, hs2⟩
  have HS2 := Lib.hid hs2
  have HO2 := Lib.hid (HO1.out.grown hg2 (by rw [← HGC.out]; exact HO1.out.size) (fun k hk => by cases hk; exact Nat.le_refl _))
  clear hs2 hg2
  go_wp2_with fail
  refine (curNum_st gC 1 l2 b2 w2 hC2 (by omega) HS2.out).mono ?_
  rintro e w3 ⟨t3, l3, b3, rfl, ht3, hC3, hg3, hs3⟩
  have HS3 := Lib.hid hs3
  have HO3 := Lib.hid (HO2.out.grown hg3 (by rw [← HGC.out]; exact HO2.out.size) (fun k hk => by cases hk; exact Nat.le_refl _))
  clear hs3 hg3
  go_wp2_with fail
  refine (curTake_at gC 8 8 l3 b3 w3 hC3 rfl (by omega) HS3.out).mono ?_
  rintro e w4 ⟨t4, l4, b4, rfl, ht4, hC4, hg4, hs4⟩
  have HS4 := Lib.hid hs4
  have HO4 := Lib.hid (HO3.out.grown hg4 (by rw [← HGC.out]; exact HO3.out.size) (fun k hk => by cases hk; exact Nat.le_refl _))
  clear hs4 hg4
  go_wp2_with fail
  refine (curNum_st gC 2 l4 b4 w4 hC4 (by omega) HS4.out).mono ?_
  rintro e w5 ⟨t5, l5, b5, rfl, ht5, hC5, hg5, hs5⟩
  have HS5 := Lib.hid hs5
  have HO5 := Lib.hid (HO4.out.grown hg5 (by rw [← HGC.out]; exact HO4.out.size) (fun k hk => by cases hk; exact Nat.le_refl _))
  clear hs5 hg5
  have h5 : Pl.num t5 < 65536 := by simpa using ht5
  go_wp2_with fail
  refine (curTake_at gC (Pl.num t5) _ l5 b5 w5 hC5 rfl (by omega) HS5.out).mono ?_
  rintro e w6 ⟨t6, l6, b6, rfl, ht6, hC6, hg6, hs6⟩
  have HS6 := Lib.hid hs6
  have HO6 := Lib.hid (HO5.out.grown hg6 (by rw [← HGC.out]; exact HO5.out.size) (fun k hk => by cases hk; exact Nat.le_refl _))
  clear hs6 hg6
  go_wp2_with fail
  refine (curNum_st gC 1 l6 b6 w6 hC6 (by omega) HS6.out).mono ?_
  rintro e w7 ⟨k7, l7, b7, rfl, hk7, hC7, hg7, hs7⟩
  have HS7 := Lib.hid hs7
  have HO7 := Lib.hid (HO6.out.grown hg7 (by rw [← HGC.out]; exact HO6.out.size) (fun k hk => by cases hk; exact Nat.le_refl _))
  clear hs7 hg7
  have h7 : Pl.num k7 < 256 := by simpa using hk7
  go_wp2_with fail
  refine (curTake_at gC (4 * Pl.num k7) _ l7 b7 w7 hC7 (by omega) (by omega) HS7.out).mono ?_
  rintro e w8 ⟨t7, l8, b8, rfl, ht7, hC8, hg8, hs8⟩
  have HS8 := Lib.hid hs8
  have HO8 := Lib.hid (HO7.out.grown hg8 (by rw [← HGC.out]; exact HO7.out.size) (fun k hk => by cases hk; exact Nat.le_refl _))
  clear hs8 hg8
  go_wp2_with fail
  refine (curNum_st gC 1 l8 b8 w8 hC8 (by omega) HS8.out).mono ?_
  rintro e w9 ⟨k9, l9, b9, rfl, hk9, hC9, hg9, hs9⟩
  have HS9 := Lib.hid hs9
  have HO9 := Lib.hid (HO8.out.grown hg9 (by rw [← HGC.out]; exact HO8.out.size) (fun k hk => by cases hk; exact Nat.le_refl _))
  clear hs9 hg9
  have h9 : Pl.num k9 < 256 := by simpa using hk9
  go_wp2_with fail
  refine (curTake_at gC (4 * Pl.num k9) _ l9 b9 w9 hC9 (by omega) (by omega) HS9.out).mono ?_
  rintro e wa ⟨t8, la, ba, rfl, ht8, hCa, hga, hsa⟩
  have HSa := Lib.hid hsa
  have HOa := Lib.hid (HO9.out.grown hga (by rw [← HGC.out]; exact HO9.out.size) (fun k hk => by cases hk; exact Nat.le_refl _))
  clear hsa hga
  go_wp2_with fail
  refine (curTake_at gC 4 4 la ba wa hCa rfl (by omega) HSa.out).mono ?_
  rintro e wb ⟨t9, lb, bb, rfl, ht9, hCb, hgb, hsb⟩
  have HSb := Lib.hid hsb
  have HOb := Lib.hid (HOa.out.grown hgb (by rw [← HGC.out]; exact HOa.out.size) (fun k hk => by cases hk; exact Nat.le_refl _))
  clear hsb hgb
  have c1 := hCb.2.cell 1
  simp only [List.getElem?_cons_succ, List.getElem?_cons_zero] at c1
  have HCb := Lib.hid hCb
  have hsz7 := tstr_size t7
  have hsz8 := tstr_size t8
  rw [ht7] at hsz7
  rw [ht8] at hsz8
  obtain ⟨s7, hs7⟩ : ∃ s7, tstr t7 = s7 := ⟨_, rfl⟩
  obtain ⟨s8, hs8⟩ : ∃ s8, tstr t8 = s8 := ⟨_, rfl⟩
  rw [hs7] at hsz7
  rw [hs8] at hsz8
  have HT7 := Lib.hid hs7
  have HT8 := Lib.hid hs8
  obtain ⟨d7, hd7⟩ : ∃ d7, Pl.num k7 = d7 := ⟨_, rfl⟩
  obtain ⟨d9, hd9⟩ : ∃ d9, Pl.num k9 = d9 := ⟨_, rfl⟩
  rw [hd7] at hsz7 h7 ht7
  rw [hd9] at hsz8 h9 ht8
  have HL7 := Lib.hid ht7
  have HL8 := Lib.hid ht8
  have HL9 := Lib.hid ht9
  have HL4 := Lib.hid ht4
  have HL6 := Lib.hid ht6
  have h1 : Pl.num t1 < 4294967296 := by simpa using ht1
  have h3 : Pl.num t3 < 256 := by simpa using ht3
  have h2 : Pl.num t2 < 256 := by simpa using ht2
  have HD7 := Lib.hid hd7
  have HD9 := Lib.hid hd9
  have hfin : Below w.heap.size w wb := by have := HOb.out; rwa [← HGC.out] at this
  have HFIN := Lib.hid hfin
  obtain ⟨i2, hi2⟩ : ∃ i2, (Pl.num t1 - 1) % 3 = i2 := ⟨_, rfl⟩
  have hi23 : i2 < 3 := by omega
  have HI2 := Lib.hid hi2
  have hgl : (Pl.groups t7).length = d7 := by rw [Pl.groups_length, ht7]; omega
  have hgl8 : (Pl.groups t8).length = d9 := by rw [Pl.groups_length, ht8]; omega
  have HG7 := Lib.hid hgl
  have HG8 := Lib.hid hgl8
  rw [HT8.out]
  clear hC0 hC1 hC2 hC3 hC4 hC5 hC6 hC7 hC8 hC9 hCa hCb hs7 hs8 ht1 ht2 ht3 ht4 ht5 ht6 ht7 ht8 ht9 hk7 hk9 hd7 hd9 hfin hi2 hgl hgl8 HO1 HO2 HO3 HO4 HO5 HO6 HO7 HO8 HO9 HOa HS0 HS1 HS2 HS3 HS4 HS5 HS6 HS7 HS8 HS9 HSa hw0
  rw [HT7.out]
  go_upto_region 10 with fail
  go_cut [83] from 48 (fun s83 wx => ∃ ng, s83 = .bool ng ∧ Hid (ng = true → Pl.attested l more g = none) ∧ Hid (ng = false → bb = false ∧ 1 ≤ Pl.num t1 ∧ Pl.num t2 < Pl.num t3 ∧ Pl.num t3 ≤ 16 ∧ d7 = Pl.depth (Pl.num t2) (Pl.num t3) ∧ d9 = Pl.depth i2 3) ∧ wb = wx)
  case first =>
    cases bb with
    | true =>
      have HNO := Lib.hid (Pl.attested_none (more := more) (g := g) (show Pl.parse l = none by
        rcases HSb.out with ⟨_, h⟩ | ⟨h, _⟩
        · exact h
        · cases h))
      go_wp2_with fail
      go_meet
      case rel => exact ⟨true, rfl, fun _ => HNO.out, (fun h => by cases h), rfl⟩
    | false =>
      have hpe : Pl.parse l = some ⟨t1, t2, t3, t4, t6, t7, t8, t9, lb⟩ := by
        rcases HSb.out with ⟨h, _⟩ | ⟨_, h⟩
        · cases h
        · exact h
      have HE1 := Lib.hid (fun h : ¬ Pl.Fits ⟨t1, t2, t3, t4, t6, t7, t8, t9, lb⟩ => Pl.attested_unfit (more := more) (g := g) hpe h)
      by_cases hn1 : Pl.num t1 < 1
      · have HNO := Lib.hid (HE1.out (fun h => by have := h.1; simp only at this; omega))
        have e1 : (Pl.num t1 : Int) < 1 := by omega
        go_wp2_with fail
        go_meet
        case rel => exact ⟨true, rfl, fun _ => HNO.out, (fun h => by cases h), rfl⟩
      have e1 : ¬ (Pl.num t1 : Int) < 1 := by omega
      have e1d : decide ((Pl.num t1 : Int) < 1) = false := decide_eq_false e1
      by_cases hn2 : Pl.num t3 ≤ Pl.num t2
      · have HNO := Lib.hid (HE1.out (fun h => by have := h.2.1; simp only at this; omega))
        have e2 : (Pl.num t3 : Int) ≤ (Pl.num t2 : Int) := by omega
        go_wp2_with fail
        go_meet
        case rel => exact ⟨true, by simp [hn2], fun _ => HNO.out, (fun h => by cases h), rfl⟩
      have e2 : ¬ (Pl.num t3 : Int) ≤ (Pl.num t2 : Int) := by omega
      have e2d : decide ((Pl.num t3 : Int) ≤ (Pl.num t2 : Int)) = false := decide_eq_false e2
      have e2n : decide (Pl.num t3 ≤ Pl.num t2) = false := decide_eq_false hn2
      by_cases hn3 : 16 < Pl.num t3
      · have HNO := Lib.hid (HE1.out (fun h => by have := h.2.2.1; simp only at this; omega))
        have e3 : (16 : Int) < (Pl.num t3 : Int) := by omega
        go_wp2_with fail
        go_meet
        case rel => exact ⟨true, rfl, fun _ => HNO.out, (fun h => by cases h), rfl⟩
      have e3 : ¬ (16 : Int) < (Pl.num t3 : Int) := by omega
      have e3d : decide ((16 : Int) < (Pl.num t3 : Int)) = false := decide_eq_false e3
      have hi3 : ((Pl.num t1 : Int) - 1) % 3 = (i2 : Int) := by have := HI2.out; omega
      go_wp2_with fail
      refine (refDeep_any (Pl.num t2) (Pl.num t3) wb (by omega) (by omega)).mono ?_
      rintro e w' ⟨rfl, rfl⟩
      obtain ⟨dd, hdd⟩ : ∃ dd, Pl.depth (Pl.num t2) (Pl.num t3) = dd := ⟨_, rfl⟩
      have hddb : dd < 256 := by rw [← hdd]; exact Nat.lt_of_lt_of_le (Pl.depth_lt _ _ (by omega)) (by omega)
      have HDD := Lib.hid hdd
      rw [hdd]
      clear hdd
      by_cases hq1 : d7 = dd
      · have HQ1 := Lib.hid hq1
        have x1 : ((4 : Int) * (d7 : Int) != 4 * (dd : Int)) = false := by simp; omega
        clear hq1
        go_wp2_with fail
        refine (refDeep_any i2 3 wb hi23 (by omega)).mono ?_
        rintro e w' ⟨rfl, rfl⟩
        obtain ⟨de, hde⟩ : ∃ de, Pl.depth i2 3 = de := ⟨_, rfl⟩
        have hdeb : de < 256 := by rw [← hde]; exact Nat.lt_of_lt_of_le (Pl.depth_lt _ _ hi23) (by omega)
        have HDE := Lib.hid hde
        rw [hde]
        clear hde
        by_cases hq2 : d9 = de
        · have HQ2 := Lib.hid hq2
          have x2 : ((4 : Int) * (d9 : Int) != 4 * (de : Int)) = false := by simp; omega
          clear hq2
          go_wp2_with fail
          go_meet
          case rel => exact ⟨false, rfl, fun h => (by cases h), fun _ => ⟨by trivial, by omega, by omega, by omega, by rw [HDD.out]; exact HQ1.out, by rw [HDE.out]; exact HQ2.out⟩, rfl⟩
        · have x2 : ((4 : Int) * (d9 : Int) != 4 * (de : Int)) = true := by simp; omega
          have HNO := Lib.hid (HE1.out (fun h => by
            have h5 := h.2.2.2.2.1
            change (Pl.groups t8).length = Pl.depth ((Pl.num t1 - 1) % 3) 3 at h5
            rw [HG8.out, HI2.out, HDE.out] at h5
            exact hq2 h5))
          clear hq2
          go_wp2_with fail
          go_meet
          case rel => exact ⟨true, rfl, fun _ => HNO.out, (fun h => by cases h), rfl⟩
      · have x1 : ((4 : Int) * (d7 : Int) != 4 * (dd : Int)) = true := by simp; omega
        have HNO := Lib.hid (HE1.out (fun h => by
          have h5 := h.2.2.2.1
          change (Pl.groups t7).length = Pl.depth (Pl.num t2) (Pl.num t3) at h5
          rw [HG7.out, HDD.out] at h5
          exact hq1 h5))
        clear hq1
        go_wp2_with fail
        go_meet
        case rel => exact ⟨true, rfl, fun _ => HNO.out, (fun h => by cases h), rfl⟩
  case rest =>
  obtain ⟨ng, rfl, HNG1, HNG2, rfl⟩ := hcut
  cases ng with
  | true =>
    go_wp2_with fail
    go_ret2
    exact RefPost.no (HNG1.out (by trivial)) HFIN.out
  | false =>
    obtain ⟨rfl, g1, g2, g3, g4, g5⟩ := HNG2.out rfl
    have hpe : Pl.parse l = some ⟨t1, t2, t3, t4, t6, t7, t8, t9, lb⟩ := by
      rcases HSb.out with ⟨h, _⟩ | ⟨_, h⟩
      · cases h
      · exact h
    have HE1 := Lib.hid (fun h : ¬ Pl.Fits ⟨t1, t2, t3, t4, t6, t7, t8, t9, lb⟩ => Pl.attested_unfit (more := more) (g := g) hpe h)
    have HE2 := Lib.hid (fun h : Pl.Fits ⟨t1, t2, t3, t4, t6, t7, t8, t9, lb⟩ => Pl.attested_fit (more := more) (g := g) hpe h)
    have G4 := Lib.hid g4
    have G5 := Lib.hid g5
    obtain ⟨k2, hk2⟩ : ∃ k2, (Pl.num t1 - 1) / 3 = k2 := ⟨_, rfl⟩
    have hk3 : ((Pl.num t1 : Int) - 1) / 3 = (k2 : Int) := by omega
    have hi3 : ((Pl.num t1 : Int) - 1) % 3 = (i2 : Int) := by have := HI2.out; omega
    have hkb : k2 < 1431655765 := by omega
    have HK2 := Lib.hid hk2
    obtain ⟨b, hbe⟩ : ∃ b : Nat, (k2 : Int) + 1 = b := ⟨k2 + 1, by omega⟩
    have HBE := Lib.hid (show b = k2 + 1 by omega)
    have hbb : b < 4294967296 := by omega
    have h9eq : tstr t9 = hstr (Pl.num t9) := by
      rw [hstr_tstr]
      have := Pl.be_num t9
      rw [HL9.out] at this
      rw [this]
    obtain ⟨x9, hx9⟩ : ∃ x9, Pl.num t9 = x9 := ⟨_, rfl⟩
    have hx9lt : x9 < 4294967296 := by rw [← hx9]; have := Pl.num_lt t9; rw [HL9.out] at this; simpa using this
    rw [hx9] at h9eq
    have HX9 := Lib.hid hx9
    have H9E := Lib.hid h9eq
    have hz : ((hstr x9).toList == [0, 0, 0, 0]) = decide (x9 = 0) := by
      rw [show ([0, 0, 0, 0] : List UInt8) = (hstr 0).toList by rw [ByteArray.toList_eq]; rfl]
      exact hstr_beq x9 0 hx9lt (by omega)
    clear hpe g4 g5 hk2 hx9 h9eq
    rw [H9E.out]
    go_upto_if 83 with fail
    go_upto_region 13 with fail
    rw [hk3]
    go_cut [93] from 88 (fun s93 wx => s93 = .bool (decide (b = 1 ∧ x9 ≠ 0)) ∧ wb = wx)
    case first =>
      by_cases hb1 : b = 1
      · have hb2 : ((b : Int) == 1) = true := by simp; omega
        by_cases hx0 : x9 = 0
        · rw [decide_eq_true hx0] at hz
          have HX0 := Lib.hid hx0
          have HB1 := Lib.hid hb1
          clear hx0 hb1
          go_wp2_with fail
          go_meet
          case rel => exact ⟨by simp [HX0.out], rfl⟩
        · rw [decide_eq_false hx0] at hz
          have HX0 := Lib.hid hx0
          have HB1 := Lib.hid hb1
          clear hx0 hb1
          go_wp2_with fail
          go_meet
          case rel => exact ⟨by simp [HX0.out, HB1.out], rfl⟩
      · have hb2 : ((b : Int) == 1) = false := by simp; omega
        go_wp2_with fail
        go_meet
        case rel => exact ⟨by simp [hb1], rfl⟩
    case rest =>
    obtain ⟨rfl, rfl⟩ := hcut
    clear hz
    by_cases hk0 : b = 1 ∧ x9 ≠ 0
    · rw [decide_eq_true hk0]
      have HNO := Lib.hid (HE1.out (fun h => by
        have h5 := h.2.2.2.2.2
        change (Pl.num t1 - 1) / 3 + 1 = 1 → Pl.num t9 = 0 at h5
        have h6 := HK2.out
        have h7 := HBE.out
        have h8 := HX9.out
        exact hk0.2 (by rw [← h8]; exact h5 (by omega))))
      clear hk0
      go_wp2_with fail
      go_ret2
      exact RefPost.no HNO.out HFIN.out
    · rw [decide_eq_false hk0]
      have hfit : Pl.Fits ⟨t1, t2, t3, t4, t6, t7, t8, t9, lb⟩ := ⟨g1, g2, g3, by rw [← G4.out]; exact HG7.out, by rw [HI2.out, ← G5.out]; exact HG8.out, fun h => by
        have h6 := HK2.out
        have h7 := HBE.out
        have h8 := HX9.out
        change (Pl.num t1 - 1) / 3 + 1 = 1 at h
        by_cases hx : x9 = 0
        · rw [← hx]; exact h8
        · exact absurd ⟨by omega, hx⟩ hk0⟩
      have HFIT := Lib.hid hfit
      clear hfit hk0
      have hlf : (Pl.be 4 (Pl.num t1)).length = 4 := Pl.be_length _ _
      obtain ⟨c1, hc1⟩ : ∃ c1, Pl.climb t6 (Pl.num t2) (Pl.num t3) (Pl.groups t7) = c1 := ⟨_, rfl⟩
      have hc1lt : c1 < 4294967296 := by rw [← hc1]; exact Nat.lt_trans (Pl.climb_lt _ _ _ _) (by decide)
      have HC1 := Lib.hid hc1
      have hwrap : IntKind.u64.wrap (Pl.num t1 : Int) = (Pl.num t1 : Int) := by rw [IntKind.wrap_u64]; omega
      have hwrap8 : IntKind.u8.wrap (Pl.num t3 : Int) = (Pl.num t3 : Int) := by rw [IntKind.wrap_u8]; omega
      have k1 := fun w => run_cat w (Pl.be 4 (Pl.num t1)) t4 (by rw [Pl.be_length, HL4.out]; omega)
      have k2' := fun w => run_cat w (Pl.be 4 (Pl.num t1) ++ t4) [UInt8.ofNat (Pl.num t3)] (by simp [Pl.be_length, HL4.out])
      have k3 := fun w => run_cat w (Pl.be 4 (Pl.num t1) ++ t4 ++ [UInt8.ofNat (Pl.num t3)]) (Pl.be 4 c1) (by simp [Pl.be_length, HL4.out])
      have one := run_onestr (Pl.num t3) h3
      obtain ⟨z4, hz4⟩ : ∃ z4, tstr t4 = z4 := ⟨_, rfl⟩
      obtain ⟨z6, hz6⟩ : ∃ z6, tstr t6 = z6 := ⟨_, rfl⟩
      obtain ⟨y1, hy1⟩ : ∃ y1, tstr (Pl.be 4 (Pl.num t1)) = y1 := ⟨_, rfl⟩
      obtain ⟨y2, hy2⟩ : ∃ y2, tstr (Pl.be 4 (Pl.num t1) ++ t4) = y2 := ⟨_, rfl⟩
      obtain ⟨y3, hy3⟩ : ∃ y3, tstr (Pl.be 4 (Pl.num t1) ++ t4 ++ [UInt8.ofNat (Pl.num t3)]) = y3 := ⟨_, rfl⟩
      obtain ⟨y4, hy4⟩ : ∃ y4, tstr (Pl.be 4 (Pl.num t1) ++ t4 ++ [UInt8.ofNat (Pl.num t3)] ++ Pl.be 4 c1) = y4 := ⟨_, rfl⟩
      obtain ⟨yo, hyo⟩ : ∃ yo, tstr [UInt8.ofNat (Pl.num t3)] = yo := ⟨_, rfl⟩
      have HCL1 := Lib.hid (refClimb_any z6 (by rw [← hz6, tstr_size, HL6.out]; omega) (Pl.num t3) (Pl.num t2) (Pl.num t3) (Pl.groups t7))
      rw [hy1, hz4, hy2] at k1
      rw [hy2, hyo, hy3] at k2'
      rw [hy3, ← hstr_tstr, hy4] at k3
      rw [hyo] at one
      have HYO := Lib.hid hyo
      have oned : ∀ w : World, (convert 23 9 (.slice (some ⟨w.heap.size, 0, none⟩) 1 1)).run Tryd.prog (w.alloc (.cells #[.int .u8 (Pl.num t3 : Int)] 5)).drew = .ok (.string yo) (w.alloc (.cells #[.int .u8 (Pl.num t3 : Int)] 5)).drew := by
        intro w
        have h := run_tostr (w.alloc (.cells #[.int .u8 (Pl.num t3 : Int)] 5)).drew _ _ 1 (onestr_bytes (Pl.num t3) h3 w)
        rw [hyo] at h
        exact h
      have HY1 := Lib.hid hy1
      have HY4 := Lib.hid hy4
      have HZ6 := Lib.hid hz6
      have hps7 : Hid (pstr (Pl.groups t7) = s7) := by rw [Hid, pstr_groups t7 (by rw [HL7.out]; omega)]; exact HT7.out
      have hps8 : Hid (pstr (Pl.groups t8) = s8) := by rw [Hid, pstr_groups t8 (by rw [HL8.out]; omega)]; exact HT8.out
      rw [hz4, hz6]
      clear hy1 hy2 hy3 hy4 hyo hz4 hc1 hlf
      have hwb := HFIN.out.size
      go_wp2_with fail
      go_cut [18] from 94 (fun s18 wx => s18 = .string y4 ∧ Hid (Below wb.heap.size wb wx))
      case first =>
        go_region_with (first
          | (go_at_call 28; refine (refBytes_any (Pl.num t1) 4 _ (by omega) (by omega)).mono ?_; rintro e w1 ⟨rfl, hb1⟩
             rw [show (⟨(Pl.be 4 (Pl.num t1)).toArray⟩ : ByteArray) = y1 from HY1.out]
             try
               have hbo := BytesAt.keep (w := (wb.alloc (.cells #[.int .u8 (Pl.num t3 : Int)] 5)).drew) (onestr_bytes (Pl.num t3) h3 wb) hb1
               have HBO := Lib.hid hbo
               have o1 : (convert 23 9 (.slice (some ⟨wb.heap.size, 0, none⟩) 1 1)).run Tryd.prog w1 = .ok (.string yo) w1 := by
                 have h := run_tostr w1 _ _ 1 hbo
                 rw [HYO.out] at h
                 exact h
               clear hbo
             have HB1 : Hid (Below wb.heap.size wb w1) := by
               first
                 | exact undrew hb1
                 | exact (((Below.refl _ _).alloc (Nat.le_refl _) _).drew).trans (hb1.mono (by simp))
             clear hb1)
          | (go_at_call 34; rw [← hps7.out]; refine (HCL1.out _ (Nat.le_refl _) g2 (by omega) (by rw [HG7.out]; exact G4.out)).mono ?_; rintro e w2 ⟨rfl, hb2⟩
             rw [hps7.out]
             rw [show z6.data.toList = t6 by rw [← HZ6.out]; rfl, HC1.out]
             try
               have hbo2 := BytesAt.keep (w := w1.alloc (.cells #[.int .u8 (Pl.num t3 : Int)] 5)) (onestr_bytes (Pl.num t3) h3 w1) hb2
               have o2 : (convert 23 9 (.slice (some ⟨w1.heap.size, 0, none⟩) 1 1)).run Tryd.prog w2 = .ok (.string yo) w2 := by
                 have h := run_tostr w2 _ _ 1 hbo2
                 rw [HYO.out] at h
                 exact h
               clear hbo2
             try
               have hbo3 := HBO.out.keep hb2
               have o3 : (convert 23 9 (.slice (some ⟨wb.heap.size, 0, none⟩) 1 1)).run Tryd.prog w2 = .ok (.string yo) w2 := by
                 have h := run_tostr w2 _ _ 1 hbo3
                 rw [HYO.out] at h
                 exact h
               clear hbo3
             have HB2 : Hid (Below wb.heap.size wb w2) := by
               first
                 | exact HB1.out.trans (hb2.mono HB1.out.size)
                 | exact (HB1.out.alloc HB1.out.size _).trans (hb2.mono (Nat.le_trans HB1.out.size (by simp)))
             clear hb2))
        all_goals
          go_wp2_with fail
          go_meet
        all_goals first | exact ⟨rfl, HB2.out⟩ | exact ⟨rfl, HB2.out.alloc HB2.out.size _⟩
      case rest =>
      obtain ⟨rfl, HBc⟩ := hcut
      clear one oned k1 k2' k3 hwrap hwrap8
      have hen : y4.data.toList = Pl.entry (Pl.num t1) t4 (Pl.num t3) c1 := by rw [← HY4.out]; rfl
      have hel : (Pl.entry (Pl.num t1) t4 (Pl.num t3) c1).length = 17 := by simp [Pl.entry, Pl.be_length, HL4.out]
      have hys : y4.size = 17 := by rw [← hel, ← hen]; rfl
      obtain ⟨c2, hc2⟩ : ∃ c2, Pl.climb (Pl.entry (Pl.num t1) t4 (Pl.num t3) c1) i2 3 (Pl.groups t8) = c2 := ⟨_, rfl⟩
      have hc2lt : c2 < 4294967296 := by rw [← hc2]; exact Nat.lt_trans (Pl.climb_lt _ _ _ _) (by decide)
      have HCL2 := fun W => refClimb_any y4 (by omega) 3 i2 3 (Pl.groups t8) W (Nat.le_refl _) hi23 (by omega) (by rw [HG8.out]; exact G5.out)
      rw [hen, hc2] at HCL2
      have HC2 := Lib.hid hc2
      have q1 : ∀ w, (Op.stringOp .add (⟨#[66]⟩ : ByteArray) (tstr (Pl.be 4 b))).run Tryd.prog w = .ok (.string (tstr ([66] ++ Pl.be 4 b))) w := fun w => run_cat w [66] (Pl.be 4 b) (by simp [Pl.be_length])
      have q2 := fun w => run_cat w ([66] ++ Pl.be 4 b) (Pl.be 4 x9) (by simp [Pl.be_length])
      have q3 := fun w => run_cat w ([66] ++ Pl.be 4 b ++ Pl.be 4 x9) (Pl.be 4 c2) (by simp [Pl.be_length])
      have hhd : [66] ++ Pl.be 4 b ++ Pl.be 4 x9 ++ Pl.be 4 c2 = Pl.header b x9 c2 := by simp [Pl.header]
      rw [hhd] at q3
      obtain ⟨v1, hv1⟩ : ∃ v1, tstr (Pl.be 4 b) = v1 := ⟨_, rfl⟩
      obtain ⟨v2, hv2⟩ : ∃ v2, tstr ([66] ++ Pl.be 4 b) = v2 := ⟨_, rfl⟩
      obtain ⟨v3, hv3⟩ : ∃ v3, tstr ([66] ++ Pl.be 4 b ++ Pl.be 4 x9) = v3 := ⟨_, rfl⟩
      obtain ⟨v4, hv4⟩ : ∃ v4, tstr (Pl.header b x9 c2) = v4 := ⟨_, rfl⟩
      rw [hv1, hv2] at q1
      rw [hv2, ← hstr_tstr, hv3] at q2
      rw [hv3, ← hstr_tstr, hv4] at q3
      have HV1 := Lib.hid hv1
      have HV4 := Lib.hid hv4
      have HCLX := Lib.hid HCL2
      have HSM := Lib.hid (fun W => refSum_of v4 (Pl.header b x9 c2) W (by rw [← hv4]; rfl) (by rw [Pl.header_length]; omega))
      obtain ⟨hh, hhh⟩ : ∃ hh, Pl.sumN (Pl.header b x9 c2) = hh := ⟨_, rfl⟩
      have hhlt : hh < 4294967296 := by rw [← hhh]; exact Nat.lt_trans (Pl.sumN_lt _) (by decide)
      have HHH := Lib.hid hhh
      have hsc := HBc.out.size
      clear hen hel hys hc2 HCL2 hhd hv1 hv2 hv3 hv4 hhh
      go_wp2_with fail
      refine (refBytes_any b 4 _ (by omega) (by omega)).mono ?_
      rintro e wd ⟨rfl, hbd⟩
      rw [show (⟨(Pl.be 4 b).toArray⟩ : ByteArray) = v1 from HV1.out]
      have HBd := Lib.hid (HBc.out.trans (hbd.mono hsc))
      clear hbd
      go_wp2_with fail
      rw [← hps8.out]
      refine (HCLX.out wd).mono ?_
      rintro e we ⟨rfl, hbe'⟩
      rw [hps8.out]
      have HBe := Lib.hid (HBd.out.trans (hbe'.mono HBd.out.size))
      have hse := HBe.out.size
      clear hbe'
      have HCe := Lib.hid (HCb.out.below HBe.out)
      have d0 := HCe.out.2.cell 0
      simp only [List.getElem?_cons_zero] at d0
      have hlbl := HCb.out.1
      obtain ⟨slb, hslb⟩ : ∃ slb, tstr lb = slb := ⟨_, rfl⟩
      rw [hslb] at d0
      have HEX := fun W => refExtends_any (b : Int) more hh g lb W hto hhlt hgg hlbl
      rw [hslb] at HEX
      have HEXX := Lib.hid HEX
      have HSLB := Lib.hid hslb
      have hcb1 := HCe.out.2
      rw [hslb] at hcb1
      have HCB1 := Lib.hid hcb1
      have hS := Lib.hid d0
      clear hslb HEX hcb1
      go_wp2_with fail
      go_region_held3 (fun W => W.cell? ⟨gC, 0, none⟩ = some (.string slb)) (first | exact hS.out | exact hS2.out | exact hS3.out) (first
        | (go_at_call 29; refine (HSM.out _).mono ?_; rintro e wf ⟨rfl, hbf⟩
           rw [HHH.out]
           have hbf' := undrew hbf
           have HBf := Lib.hid (HBe.out.trans (hbf'.mono hse))
           have HCB2 := Lib.hid (HCB1.out.below hbf' HCB1.out.lt)
           have hS2 := Lib.hid (HCB2.out.cell 0)
           clear hbf hbf')
        | (go_at_call 11; refine (HEXX.out wf).mono ?_; rintro e wg ⟨rfl, hbg⟩
           have HBg := Lib.hid (HBf.out.trans (hbg.mono HBf.out.size))
           have hS3 := Lib.hid ((HCB2.out.below hbg HCB2.out.lt).cell 0)
           clear hbg)
        | fail)
      obtain ⟨ok, hok⟩ : ∃ ok, Pl.extends_ (b : Int) hh more g lb = ok := ⟨_, rfl⟩
      rw [hok]
      have hans : Pl.attested l more g = if ok = true then some t6 else none := by
        have h1 := HE2.out HFIT.out
        have hbo : Pl.blockOf ⟨t1, t2, t3, t4, t6, t7, t8, t9, lb⟩ = b := by
          have := HBE.out
          have := HK2.out
          show (Pl.num t1 - 1) / 3 + 1 = b
          omega
        have hho : Pl.sumN (Pl.headOf ⟨t1, t2, t3, t4, t6, t7, t8, t9, lb⟩) = hh := by
          rw [← HHH.out]
          unfold Pl.headOf
          rw [hbo, HX9.out, HC1.out, HI2.out, HC2.out]
        rw [hbo, hho, hok] at h1
        exact h1
      have HANS := Lib.hid hans
      clear hans hok
      go_wp2_with fail
      go_ret2
      refine ⟨t6, ok, by rw [HZ6.out]; rfl, fun h => ?_, fun h => ?_, HFIN.out.trans (HBg.out.mono hwb)⟩
      · rw [HANS.out, h]; rfl
      · rw [HANS.out, h]; rfl
end Go.Proofs.YtljmklohgpaopaaDoor
