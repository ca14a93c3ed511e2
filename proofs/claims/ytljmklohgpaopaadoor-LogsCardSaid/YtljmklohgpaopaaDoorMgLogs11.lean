/- The walk of chain.Attested. The walks of daybook's and plain's Extends and Attested; of the harness's four. -/
import Derived.Test.YtljmklohgpaopaaDoorMgLogs7
import Derived.Test.YtljmklohgpaopaaDoorMgLogs10
import Derived.Test.YtljmklohgpaopaaDoorMgLogs5

namespace Go.Proofs.YtljmklohgpaopaaDoor
open Go.RowKit

def AttPost (w : World) (l : List UInt8) (more : Int) (g : Nat) (e : Ending) (w' : World) : Prop :=
  ∃ v txt ok, e = .returned (.tuple #[v, .bool ok]) ∧ (ok = true → Pl.attested l more g = some txt ∧ w'.ownsRow w.heap.size 5 1 v txt.length (bv txt)) ∧ (ok = false → Pl.attested l more g = none) ∧ Below w.heap.size w w'
theorem AttPost.no {w w' : World} {l : List UInt8} {more : Int} {g : Nat} {v : Value} (h : Pl.attested l more g = none) (hb : Below w.heap.size w w') : AttPost w l more g (.returned (.tuple #[v, .bool false])) w' :=
  ⟨v, [], false, rfl, fun h => (by cases h), fun _ => h, hb⟩

/-- The cells that the last statement loads. -/
theorem loads {W : World} {y d gR : Nat} {A : Option Addr} {a b : Int} {h g n cap : Nat} {u : Value} (B1 : Blk W y 76 (Value.int .i64 a :: hc h)) (B2 : Blk W d 76 (Value.int .i64 b :: hc g)) (B3 : Blk W gR 153 [.slice A n cap, u]) :
    W.cell? ⟨y, 0, none⟩ = some (.int .i64 a) ∧ W.cell? ⟨y, 1, none⟩ = some (.int .u8 ((h : Int) / 16777216)) ∧ W.cell? ⟨y, 2, none⟩ = some (.int .u8 ((h : Int) / 65536 % 256)) ∧ W.cell? ⟨y, 3, none⟩ = some (.int .u8 ((h : Int) / 256 % 256)) ∧ W.cell? ⟨y, 4, none⟩ = some (.int .u8 ((h : Int) % 256)) ∧
    W.cell? ⟨d, 0, none⟩ = some (.int .i64 b) ∧ W.cell? ⟨d, 1, none⟩ = some (.int .u8 ((g : Int) / 16777216)) ∧ W.cell? ⟨d, 2, none⟩ = some (.int .u8 ((g : Int) / 65536 % 256)) ∧ W.cell? ⟨d, 3, none⟩ = some (.int .u8 ((g : Int) / 256 % 256)) ∧ W.cell? ⟨d, 4, none⟩ = some (.int .u8 ((g : Int) % 256)) ∧
    W.cell? ⟨gR, 0, none⟩ = some (.slice A n cap) :=
  ⟨B1.cell 0, B1.cell 1, B1.cell 2, B1.cell 3, B1.cell 4, B2.cell 0, B2.cell 1, B2.cell 2, B2.cell 3, B2.cell 4, B3.cell 0⟩

set_option maxHeartbeats 4000000 in
set_option maxRecDepth 100000 in
theorem attested_any (more : Int) (g : Nat) (A : Option Addr) (cap : Nat) (l : List UInt8) (w : World) (hto : more ≤ 9223372036854775807) (hgg : g < 4294967296) (hb : BytesAt w A l) (hA : ∀ p, A = some p → p.block < w.heap.size) (hm : l.length ≤ 140737488351232) (hcp : l.length ≤ cap) :
    Calls Tryd.prog 55 #[.slice A l.length cap, digest more g] w (AttPost w l more g) := by
  obtain ⟨w0, hw0⟩ : ∃ w0, (w.alloc (.cells (Value.int .i64 more :: hc g).toArray 76)).alloc (.cells #[.slice A l.length cap, .bool false] 153) = w0 := ⟨_, rfl⟩
  have B1 : Blk w0 w.heap.size 76 (Value.int .i64 more :: hc g) := by rw [← hw0]; exact (Blk.new _ _ _).alloc _
  have B2 : Blk w0 (w.heap.size + 1) 153 [.slice A l.length cap, .bool false] := by rw [← hw0]; exact Blk.newAt _ _ _ _ (by simp)
  have hbel : Below w.heap.size w w0 := by rw [← hw0]; exact ((Below.refl _ _).alloc (Nat.le_refl _) _).alloc (by simp) _
  have hR0 : Rdr w0 (w.heap.size + 1) l false := ⟨A, cap, hcp, hm, B2, hb.keep hbel, fun p hp => Nat.lt_succ_of_lt (hA p hp)⟩
  obtain ⟨gR, hgR⟩ : ∃ gR, w.heap.size + 1 = gR := ⟨_, rfl⟩
  rw [hgR] at hR0
  have hlt : w.heap.size < gR := by omega
  have HGR := Lib.hid hgR
  have HB1 := Lib.hid B1
  have HO := Lib.hid (Only.of_below hbel (· = gR))
  have hs0 : Pl.St (Pl.parse l) false (Pl.parse l) := Pl.St.start _
  unfold Pl.parse at hs0
  have HS0 : Hid (Pl.St (Pl.parse l) false _) := hs0
  simp only [hc] at hw0
  unfold digest
  clear B1 B2 hbel hs0 hb hA
  go_enter Tryd.func55, Tryd.ntmps55
  go_wp2_with fail
  clear hgR
  have HD0 := HB1
  refine (num_st gR 4 l false w0 hR0 (by omega) HS0.out).mono ?_
  rintro e w1 ⟨t1, l1, b1, rfl, ht1, hR1, hg1, hs1⟩
  have HS1 := Lib.hid hs1
  have HO1 := Lib.hid (HO.out.trans' (Only.of_grown hg1))
  have HD1 := Lib.hid (Blk.grown HD0.out hg1 (by simp; omega))
  clear hs1 hg1
  go_wp2_with fail
  refine (num_st gR 1 l1 b1 w1 hR1 (by omega) HS1.out).mono ?_
  rintro e w2 ⟨t2, l2, b2, rfl, ht2, hR2, hg2, hs2⟩
  have HS2 := Lib.hid hs2
  have HO2 := Lib.hid (HO1.out.trans' (Only.of_grown hg2))
  have HD2 := Lib.hid (Blk.grown HD1.out hg2 (by simp; omega))
  clear hs2 hg2
  go_wp2_with fail
  refine (num_st gR 1 l2 b2 w2 hR2 (by omega) HS2.out).mono ?_
  rintro e w3 ⟨t3, l3, b3, rfl, ht3, hR3, hg3, hs3⟩
  have HS3 := Lib.hid hs3
  have HO3 := Lib.hid (HO2.out.trans' (Only.of_grown hg3))
  have HD3 := Lib.hid (Blk.grown HD2.out hg3 (by simp; omega))
  clear hs3 hg3
  go_wp2_with fail
  refine (take_st gR 8 l3 b3 w3 hR3 (by omega) HS3.out).mono ?_
  rintro e w4 ⟨A4, t4, l4, b4, rfl, hby4, hA4, ht4, hR4, hg4, hs4⟩
  have HS4 := Lib.hid hs4
  have HO4 := Lib.hid (HO3.out.trans' (Only.of_grown hg4))
  have HD4 := Lib.hid (Blk.grown HD3.out hg4 (by simp; omega))
  clear hs4 hg4
  go_wp2_with fail
  refine (get_any A4 _ t4 w4 hby4 ht4).mono ?_
  rintro e w' ⟨rfl, rfl⟩
  go_wp2_with fail
  refine (num_st gR 2 l4 b4 w4 hR4 (by omega) HS4.out).mono ?_
  rintro e w5 ⟨t5, l5, b5, rfl, ht5, hR5, hg5, hs5⟩
  have HS5 := Lib.hid hs5
  have HO5 := Lib.hid (HO4.out.trans' (Only.of_grown hg5))
  have HD5 := Lib.hid (Blk.grown HD4.out hg5 (by simp; omega))
  clear hs5 hg5
  go_wp2_with fail
  refine (take_st gR (Pl.num t5) l5 b5 w5 hR5 (by omega) HS5.out).mono ?_
  rintro e w6 ⟨A6, t6, l6, b6, rfl, hby6, hA6, ht6, hR6, hg6, hs6⟩
  have HS6 := Lib.hid hs6
  have HO6 := Lib.hid (HO5.out.trans' (Only.of_grown hg6))
  have HD6 := Lib.hid (Blk.grown HD5.out hg6 (by simp; omega))
  clear hs6 hg6
  have hsz6 := HO6.out.size
  go_wp2_with fail
  refine (hashes_st gR l6 b6 w6 hR6 HS6.out).mono ?_
  rintro e w7 ⟨P7, cp7, ps7, t7, l7, b7, rfl, hc7, hsr7, hP7, hx7, hR7, hg7, hs7, hp7, hm7⟩
  have HP7 := Lib.hid hp7
  have HX7 := Lib.hid hx7
  have HBY7 := Lib.hid (Only.bytes (Only.of_grown hg7) hby6 (fun p hp e => by have := hA6 p hp; omega))
  clear hp7 hx7 hby6
  have HS7 := Lib.hid hs7
  have HO7 := Lib.hid (HO6.out.trans' (Only.of_grown hg7))
  have HD7 := Lib.hid (Blk.grown HD6.out hg7 (by simp; omega))
  clear hs7 hg7
  go_wp2_with fail
  refine (hashes_st gR l7 b7 w7 hR7 HS7.out).mono ?_
  rintro e w8 ⟨P8, cp8, ps8, t8, l8, b8, rfl, hc8, hsr8, hP8, hx8, hR8, hg8, hs8, hp8, hm8⟩
  have hgl8 := hR7.lt
  have hgl6 := hR6.lt
  have HP8 := Lib.hid hp8
  have HX8 := Lib.hid hx8
  have HBY8 := Lib.hid (Only.bytes (Only.of_grown hg8) HBY7.out (fun p hp e => by have := hA6 p hp; omega))
  have HSR8 := Lib.hid (Only.src (Only.of_grown hg8) hsr7 (fun p hp e => by have := hP7 p hp; omega))
  clear hp8 hx8 hsr7
  have HS8 := Lib.hid hs8
  have HO8 := Lib.hid (HO7.out.trans' (Only.of_grown hg8))
  have HD8 := Lib.hid (Blk.grown HD7.out hg8 (by simp; omega))
  clear hs8 hg8
  go_wp2_with fail
  refine (hash_st gR l8 b8 w8 hR8 HS8.out).mono ?_
  rintro e w9 ⟨x9, t9, l9, b9, rfl, hx9, ht9, hR9, hg9, hs9, hm9⟩
  have hgl9 := hR9.lt
  have HBY9 := Lib.hid (Only.bytes (Only.of_grown hg9) HBY8.out (fun p hp e => by have := hA6 p hp; omega))
  have HSR9 := Lib.hid (Only.src (Only.of_grown hg9) HSR8.out (fun p hp e => by have := hP7 p hp; omega))
  have HTR9 := Lib.hid (Only.src (Only.of_grown hg9) hsr8 (fun p hp e => by have := hP8 p hp; omega))
  have HT9 := Lib.hid ht9
  have HM8 := Lib.hid hm8
  have HM9 := Lib.hid hm9
  clear hsr8 ht9 hm7 hm8 hm9
  have HS9 := Lib.hid hs9
  have HO9 := Lib.hid (HO8.out.trans' (Only.of_grown hg9))
  have HD9 := Lib.hid (Blk.grown HD8.out hg9 (by simp; omega))
  clear hs9 hg9 HD0 HD1 HD2 HD3 HD4 HD5 HD6 HD7 HD8 HO1 HO2 HO3 HO4 HO5 HO6 HO7 HO8 HS0 HS1 HS2 HS3 HS4 HS5 HS6 HS7 HS8 HBY7 HBY8 HSR8 hR0 hR1 hR2 hR3 hR4 hR5 hR6 hR7 hR8 hw0
  obtain ⟨wA, hwA⟩ : ∃ wA, w9.alloc (.cells (hc x9).toArray 73) = wA := ⟨_, rfl⟩
  have hbA : Below w9.heap.size w9 wA := by rw [← hwA]; exact (Below.refl _ _).alloc (Nat.le_refl _) _
  have BL := Lib.hid (show Blk wA w9.heap.size 73 (hc x9) by rw [← hwA]; exact Blk.new _ _ _)
  have RA := Lib.hid (hR9.below hbA)
  have HBYA := Lib.hid (HBY9.out.keep hbA)
  have HSRA := Lib.hid (HSR9.out.below hbA)
  have HTRA := Lib.hid (HTR9.out.below hbA)
  have HOA := Lib.hid (HO9.out.below hbA)
  have HDA := Lib.hid (HD9.out.below hbA HD9.out.lt)
  have hszA := hbA.size
  have hl9 := hR9.length
  obtain ⟨Ar, capr, hr1, hr2, hBr, hr3, hr4⟩ := RA.out
  have rd0 := hBr.cell 0
  have rd1 := hBr.cell 1
  simp only [List.getElem?_cons_zero, List.getElem?_cons_succ] at rd0 rd1
  have hfin : ∀ w', Only (· = gR) w w' → Below w.heap.size w w' := fun w' h => h.toBelow (Nat.le_refl _) (fun k hk e => by omega)
  have HFIN := Lib.hid hfin
  simp only [hc] at hwA
  clear hbA hR9 HBY9 HSR9 HTR9 HO9 HD9 hBr hr3 hr4 hfin
  unfold hashVal
  cases b9 with
  | true =>
    have HNO := Lib.hid (Pl.attested_none (more := more) (g := g) (show Pl.parse l = none by
      rcases HS9.out with ⟨_, h⟩ | ⟨h, _⟩
      · exact h
      · cases h))
    go_wp2_with fail
    go_ret2
    exact AttPost.no HNO.out (HFIN.out _ HOA.out)
  | false =>
    have hpe : Pl.parse l = some ⟨t1, t2, t3, t4, t6, t7, t8, t9, l9⟩ := by
      rcases HS9.out with ⟨h, _⟩ | ⟨_, h⟩
      · cases h
      · exact h
    obtain ⟨p1, p2, p3, p4, p5, p6, p7, p8, p9⟩ := Pl.parse_some hpe
    simp only at p1 p2 p3 p4 p5 p6 p7
    have p6' : t6.length ≤ 140737488351232 := Nat.le_trans p6 hm
    have HE1 := Lib.hid (fun h : ¬ Pl.Fits ⟨t1, t2, t3, t4, t6, t7, t8, t9, l9⟩ => Pl.attested_unfit (more := more) (g := g) hpe h)
    have HE2 := Lib.hid (fun h : Pl.Fits ⟨t1, t2, t3, t4, t6, t7, t8, t9, l9⟩ => Pl.attested_fit (more := more) (g := g) hpe h)
    have HX9 := Lib.hid (HT9.out p5)
    have H8 := Lib.hid (HP8.out (HM9.out rfl))
    have H7 := Lib.hid (HP7.out (HM8.out (HM9.out rfl)))
    have ht1n : Pl.num t1 < 4294967296 := by simpa using ht1
    have ht3n : Pl.num t3 < 256 := by simpa using ht3
    have ht2n : Pl.num t2 < 256 := by simpa using ht2
    by_cases hn1 : Pl.num t1 < 1
    · have HNO := Lib.hid (HE1.out (fun h => by have := h.1; simp only at this; omega))
      have e1 : (Pl.num t1 : Int) < 1 := by omega
      go_wp2_with fail
      go_ret2
      exact AttPost.no HNO.out (HFIN.out _ HOA.out)
    have e1 : ¬ (Pl.num t1 : Int) < 1 := by omega
    have e1d : decide ((Pl.num t1 : Int) < 1) = false := decide_eq_false e1
    by_cases hn3 : 16 < Pl.num t3
    · have HNO := Lib.hid (HE1.out (fun h => by have := h.2.2.1; simp only at this; omega))
      have e3 : (16 : Int) < (Pl.num t3 : Int) := by omega
      go_wp2_with fail
      go_ret2
      exact AttPost.no HNO.out (HFIN.out _ HOA.out)
    have e3 : ¬ (16 : Int) < (Pl.num t3 : Int) := by omega
    obtain ⟨r1, ok1, hr1lt, HC1, hok, hno⟩ := climb_either t6 (Pl.num t2) (Pl.num t3) ps7 p6' (by omega) HX7.out
    have HC1' := Lib.hid HC1
    have HOK := Lib.hid hok
    have HNO1 := Lib.hid hno
    clear HC1 hok hno
    go_wp2_with fail
    refine (HC1'.out wA A6 P7 _ cp7 HBYA.out HSRA.out hc7).mono ?_
    rintro e wB ⟨rfl, hbB⟩
    have hOB := HOA.out.below hbB
    have HOB := Lib.hid hOB
    cases ok1 with
    | false =>
      have HNO := Lib.hid (HE1.out (fun h => HNO1.out rfl ⟨h.2.1, by have := h.2.2.2.1; rw [H7.out]; exact this⟩))
      clear hbB hOB
      unfold hashVal
      go_wp2_with fail
      go_ret2
      exact AttPost.no HNO.out (HFIN.out _ (HOB.out.alloc _))
    | true =>
      obtain ⟨ho1, ho2, ho3⟩ := HOK.out rfl
      have HO1 := Lib.hid ho1
      have HO2 := Lib.hid ho2
      have HO3 := Lib.hid ho3
      clear ho2 ho3
      -- what is there behind the first climb, the root's variable laid
      obtain ⟨wC, hwC⟩ : ∃ wC, wB.alloc (.cells (hc r1).toArray 73) = wC := ⟨_, rfl⟩
      have hbC : Below wA.heap.size wA wC := by rw [← hwC]; exact hbB.alloc hbB.size _
      have hbBC : Below wB.heap.size wB wC := by rw [← hwC]; exact (Below.refl _ _).alloc (Nat.le_refl _) _
      have BR := (show Blk wC wB.heap.size 73 (hc r1) by rw [← hwC]; exact Blk.new _ _ _)
      have BLC := Lib.hid (BL.out.below hbC BL.out.lt)
      have RC := Lib.hid (RA.out.below hbC)
      have HBYC := Lib.hid (HBYA.out.keep hbC)
      have HTRC := Lib.hid (HTRA.out.below hbC)
      have HOC := Lib.hid (HOB.out.below hbBC)
      have HDC := Lib.hid (HDA.out.below hbC HDA.out.lt)
      have hlLC := BLC.out.lt
      have hszB := hbB.size
      obtain ⟨c0, c1, c2, c3, f0, f1, f2, f3⟩ := facts4 BR
      have HBR := Lib.hid BR
      have h4 : Pl.num t4 < 18446744073709551616 := by have := Pl.num_lt t4; rw [p4] at this; exact this
      have HB8 := Lib.hid (show Pl.be 8 (Pl.num t4) = t4 by have := Pl.be_num t4; rw [p4] at this; exact this)
      obtain ⟨i2, hi2⟩ : ∃ i2, (Pl.num t1 - 1) % 3 = i2 := ⟨_, rfl⟩
      obtain ⟨k2, hk2⟩ : ∃ k2, (Pl.num t1 - 1) / 3 = k2 := ⟨_, rfl⟩
      have hi3 : ((Pl.num t1 : Int) - 1) % 3 = (i2 : Int) := by omega
      have hk3 : ((Pl.num t1 : Int) - 1) / 3 = (k2 : Int) := by omega
      have hkb : k2 < 1431655765 := by omega
      have HI2 := Lib.hid hi2
      have HK2 := Lib.hid hk2
      simp only [hc] at hwC
      clear hbB hOB hbC hbBC BR hi2 hk2 rd0 rd1
      unfold hashVal
      go_wp2_with fail
      refine (entry_any (Pl.num t1) (Pl.num t4) (Pl.num t3) r1 wC ht1n h4 ht3n hr1lt).mono ?_
      rintro e wD ⟨A7, cap7, rfl, hby7, hbD⟩
      obtain ⟨en, hen⟩ : ∃ en, Pl.entry (Pl.num t1) (Pl.be 8 (Pl.num t4)) (Pl.num t3) r1 = en := ⟨_, rfl⟩
      have hel : en.length = 17 := by rw [← hen]; simp [Pl.entry, Pl.be_length]
      have HEN := Lib.hid hen
      rw [hen] at hby7
      obtain ⟨r2, ok2, hr2lt, HC2, hok2, hno2⟩ := climb_either en i2 3 ps8 (by omega) (by omega) HX8.out
      rw [hel] at HC2
      have HC2' := Lib.hid HC2
      have HOK2 := Lib.hid hok2
      have HNO2 := Lib.hid hno2
      have HEL := Lib.hid hel
      have HTRD := Lib.hid (HTRC.out.below hbD)
      have HBY7 := Lib.hid hby7
      have HBD := Lib.hid hbD
      clear HC2 hok2 hno2 hen hel hby7 hbD
      go_wp2_with fail
      refine (HC2'.out wD A7 P8 _ cp8 HBY7.out HTRD.out hc8).mono ?_
      rintro e wE ⟨rfl, hbE⟩
      have hbCE := HBD.out.trans (hbE.mono HBD.out.size)
      have BRE := HBR.out.below hbCE HBR.out.lt
      obtain ⟨c0, c1, c2, c3, f0, f1, f2, f3⟩ := facts4 BRE
      have BLE := Lib.hid (BLC.out.below hbCE BLC.out.lt)
      have RE := Lib.hid (RC.out.below hbCE)
      have HBYE := Lib.hid (HBYC.out.keep hbCE)
      have HOE := Lib.hid (HOC.out.below hbCE)
      have HDE := Lib.hid (HDC.out.below hbCE HDC.out.lt)
      have HBRE := Lib.hid BRE
      have hszE := hbCE.size
      clear hbE hbCE BRE
      cases ok2 with
      | false =>
        have HNO := Lib.hid (HE1.out (fun h => HNO2.out rfl ⟨by have := HI2.out; omega, by have := h.2.2.2.2.1; rw [H8.out, ← HI2.out]; exact this⟩))
        unfold hashVal
        go_wp2_with fail
        go_ret2
        refine AttPost.no HNO.out (HFIN.out _ ?_)
        exact only_set4 HOE.out (.inr (by have := HOB.out.size; omega)) _ _ _ _
      | true =>
        obtain ⟨q1, q2, q3⟩ := HOK2.out rfl
        have Q2 := Lib.hid q2
        have Q3 := Lib.hid q3
        clear q1 q2 q3
        have hzz : wA.heap.size ≤ wB.heap.size := hszB
        obtain ⟨z, hz⟩ : ∃ z, wB.heap.size = z := ⟨_, rfl⟩
        have hz9 : w9.heap.size < z := by rw [← hz]; exact Nat.lt_of_lt_of_le (BL.out.lt) hszB
        obtain ⟨wF, hwF⟩ : ∃ wF, (((wE.setCell ⟨z, 0, none⟩ (.int .u8 ((r2 : Int) / 16777216))).setCell ⟨z, 1, none⟩ (.int .u8 ((r2 : Int) / 65536 % 256))).setCell ⟨z, 2, none⟩ (.int .u8 ((r2 : Int) / 256 % 256))).setCell ⟨z, 3, none⟩ (.int .u8 ((r2 : Int) % 256)) = wF := ⟨_, rfl⟩
        have ho : Only (· = z) wE wF := by rw [← hwF]; exact only_set4 (Only.refl (· = z) wE) (.inl rfl) _ _ _ _
        have hbre := HBRE.out
        rw [hz] at hbre
        obtain ⟨m0, m1, m2, m3, n0, n1, n2, n3⟩ := facts4 hbre
        have BRF : Blk wF z 73 (hc r2) := by rw [← hwF]; exact hbre.set4 _ _ _ _
        have BLF := Lib.hid (ho.blk BLE.out (by omega))
        have RF := Lib.hid (RE.out.only ho (fun x hx e => by omega))
        have HBYF := Lib.hid (ho.bytes HBYE.out (fun p hp e => by have := hA6 p hp; omega))
        have HOF := Lib.hid (HOE.out.trans (G := (· = z)) ho (fun x hx e => by exfalso; have h1 := HOB.out.size; rw [hz] at h1; omega))
        have HDF := Lib.hid (ho.blk HDE.out (by omega))
        have hlF := BRF.lt
        obtain ⟨c0, c1, c2, c3, f0, f1, f2, f3⟩ := facts4 BRF
        obtain ⟨d0, d1, d2, d3, g0, g1, g2, g3⟩ := facts4 BLF.out
        have HBRF := Lib.hid BRF
        obtain ⟨bb, hbe⟩ : ∃ bb : Nat, (k2 : Int) + 1 = bb := ⟨k2 + 1, by omega⟩
        have HBE := Lib.hid (show bb = k2 + 1 by omega)
        have hbb : bb < 4294967296 := by omega
        have hne : ∀ w, (binOp .neq 73 (.agg #[.int .u8 ((x9 : Int) / 16777216), .int .u8 ((x9 : Int) / 65536 % 256), .int .u8 ((x9 : Int) / 256 % 256), .int .u8 ((x9 : Int) % 256)]) (.agg #[.int .u8 0, .int .u8 0, .int .u8 0, .int .u8 0])).run Tryd.prog w = .ok (.bool (!decide (x9 = 0))) w := run_neq_hash x9 0 hx9 (by omega)
        have HZ := Lib.hid hz
        clear ho hbre BRF hz
        unfold hashVal
        by_cases hk0 : bb = 1 ∧ x9 ≠ 0
        · have HNO := Lib.hid (HE1.out (fun h => by
            have h5 := h.2.2.2.2.2
            have h6 := HK2.out
            have h7 := HBE.out
            have h8 := HX9.out
            simp only at h5
            exact hk0.2 (by rw [h8]; exact h5 (by omega))))
          rw [decide_eq_false hk0.2] at hne
          have hb2 : ((bb : Int) == 1) = true := by simp; omega
          clear hk0
          rw [HZ.out]
          go_wp2_with fail
          go_ret2
          exact AttPost.no HNO.out (HFIN.out _ HOF.out)
        · have hfit : Pl.Fits ⟨t1, t2, t3, t4, t6, t7, t8, t9, l9⟩ := ⟨show 1 ≤ Pl.num t1 by omega, HO1.out, show Pl.num t3 ≤ 16 by omega, by rw [← H7.out]; exact HO2.out, by rw [← H8.out, HI2.out]; exact Q2.out, fun h => by
            have h6 := HK2.out
            have h7 := HBE.out
            have h8 := HX9.out
            change (Pl.num t1 - 1) / 3 + 1 = 1 at h
            by_cases hx : x9 = 0
            · rw [← h8]; exact hx
            · exact absurd ⟨by omega, hx⟩ hk0⟩
          have HFIT := Lib.hid hfit
          clear hfit
          have hcut : ∀ b : Bool, b = false → b = false := fun _ h => h
          clear hcut
          rw [HZ.out]
          go_upto_region 17 with fail
          go_cut [88] from 84 (fun s88 wx => s88 = .bool false ∧ wF = wx)
          case first =>
            by_cases hb1 : bb = 1
            · have hx0 : x9 = 0 := by
                by_cases hx : x9 = 0
                · exact hx
                · exact absurd ⟨hb1, hx⟩ hk0
              rw [decide_eq_true hx0] at hne
              have hb2 : ((bb : Int) == 1) = true := by simp; omega
              clear hx0 hk0 hb1
              go_wp2_with fail
              go_meet
              case rel => exact ⟨rfl, rfl⟩
            · have hb2 : ((bb : Int) == 1) = false := by simp; omega
              go_wp2_with fail
              go_meet
              case rel => exact ⟨rfl, rfl⟩
          case rest =>
          obtain ⟨rfl, rfl⟩ := hcut
          clear hne hwF m0 m1 m2 m3 n0 n1 n2 n3
          go_upto_if 88 with fail
          go_wp2_with fail
          refine (header_any bb x9 r2 wF hbb hx9 hr2lt).mono ?_
          rintro e wG ⟨A8, cap8, rfl, hby8, hbG⟩
          have HBG := Lib.hid hbG
          have HBY8' := Lib.hid hby8
          clear hbG hby8
          go_wp2_with fail
          have hH := chainHash_any A8 cap8 (Pl.header bb x9 r2) wG HBY8'.out (by rw [Pl.header_length]; omega)
          rw [Pl.header_length] at hH
          refine hH.mono ?_
          rintro e wH ⟨rfl, hbH⟩
          clear hH
          obtain ⟨hh, hhe⟩ : ∃ hh, Pl.sumN (Pl.header bb x9 r2) = hh := ⟨_, rfl⟩
          have hhlt : hh < 4294967296 := by rw [← hhe]; exact Nat.lt_trans (Pl.sumN_lt _) (by decide)
          have HHE := Lib.hid hhe
          rw [hhe]
          clear hhe
          unfold hashVal
          have hbFH := HBG.out.trans (hbH.mono HBG.out.size)
          have RH := Lib.hid (RF.out.below hbFH)
          have HBYH := Lib.hid (HBYF.out.keep hbFH)
          have HOH := Lib.hid (HOF.out.below hbFH)
          have HDH := Lib.hid (HDF.out.below hbFH HDF.out.lt)
          clear hbH hbFH
          obtain ⟨y, hy⟩ : ∃ y, wH.heap.size = y := ⟨_, rfl⟩
          obtain ⟨wI, hwI⟩ : ∃ wI, wH.alloc (.cells (Value.int .i64 bb :: hc hh).toArray 76) = wI := ⟨_, rfl⟩
          have hbI : Below wH.heap.size wH wI := by rw [← hwI]; exact (Below.refl _ _).alloc (Nat.le_refl _) _
          have BY := Lib.hid (show Blk wI y 76 (Value.int .i64 bb :: hc hh) by rw [← hwI, ← hy]; exact Blk.new _ _ _)
          have RI := RH.out.below hbI
          have HBYI := Lib.hid (HBYH.out.keep hbI)
          have HOI := Lib.hid (HOH.out.below hbI)
          have HDI := Lib.hid (HDH.out.below hbI HDH.out.lt)
          have hsI := HOI.out.size
          obtain ⟨Ai, capi, hi1, hi2, hBi, hi3, hi4⟩ := RI
          have HBI := Lib.hid hBi
          have HI3 := Lib.hid hi3
          have hS := Lib.hid (loads BY.out HDI.out hBi)
          have HY := Lib.hid hy
          have HEX := fun W hb => extends_any (bb : Int) more hh g Ai capi l9 W hto hhlt hgg hb hi2 hi1
          have HEX' := Lib.hid HEX
          simp only [hc] at hwI
          obtain ⟨i0, hi0, hz0, hz1, hz2⟩ := info_parts Tryd.infoByte
          clear hbI hBi hi3 hy HEX
          go_wp2_with fail
          rw [HY.out]
          go_region_held3 (fun W => W.cell? ⟨y, 0, none⟩ = some (.int .i64 bb) ∧ W.cell? ⟨y, 1, none⟩ = some (.int .u8 ((hh : Int) / 16777216)) ∧ W.cell? ⟨y, 2, none⟩ = some (.int .u8 ((hh : Int) / 65536 % 256)) ∧ W.cell? ⟨y, 3, none⟩ = some (.int .u8 ((hh : Int) / 256 % 256)) ∧ W.cell? ⟨y, 4, none⟩ = some (.int .u8 ((hh : Int) % 256)) ∧
            W.cell? ⟨w.heap.size, 0, none⟩ = some (.int .i64 more) ∧ W.cell? ⟨w.heap.size, 1, none⟩ = some (.int .u8 ((g : Int) / 16777216)) ∧ W.cell? ⟨w.heap.size, 2, none⟩ = some (.int .u8 ((g : Int) / 65536 % 256)) ∧ W.cell? ⟨w.heap.size, 3, none⟩ = some (.int .u8 ((g : Int) / 256 % 256)) ∧ W.cell? ⟨w.heap.size, 4, none⟩ = some (.int .u8 ((g : Int) % 256)) ∧
            W.cell? ⟨gR, 0, none⟩ = some (.slice Ai l9.length capi)) (first | exact hS.out | exact hS2.out | exact hS3.out) (first
            | (refine step_append_src _ rfl (.const (.slice none 0 0)) (.tmp 96) 23 rfl w.heap.size 5 i0 (.int .u8 0) 1 1 Tryd.underlying23 hi0 hz0 hz1 hz2 rfl (by decide) (.slice none 0 0) 0 [] rfl (World.ownsRow_nil _ _ _ _) A6 t6.length t6.length (bv t6) rfl (by simp) (by exact HBYI.out.src) (bv_one _) (by simp only [maxLen]; omega) (byte_room (by omega)) (by exact hsI) ?_
               intro v2 w2 hown2 hg2 hat2
               have hb2 : Below wI.heap.size wI w2 := ⟨hg2.os, hg2.tape, hg2.output, hg2.size, fun k hk => hg2.block k hk (by simp [Value.ownBlock])⟩
               have BY2 := Lib.hid (BY.out.below hb2 BY.out.lt)
               have HDI2 := Lib.hid (HDI.out.below hb2 HDI.out.lt)
               have HBI2 := Lib.hid (HBI.out.below hb2 HBI.out.lt)
               have hS2 := Lib.hid (loads BY2.out HDI2.out HBI2.out)
               have HI3' := Lib.hid (HI3.out.keep hb2)
               have HOI2 := Lib.hid (HOI.out.below hb2)
               clear hb2 hg2)
            | (go_at_call 54; refine (HEX'.out w2 HI3'.out).mono ?_; rintro e w3 ⟨rfl, hb3⟩
               have hS3 := Lib.hid (loads (BY2.out.below hb3 BY2.out.lt) (HDI2.out.below hb3 HDI2.out.lt) (HBI2.out.below hb3 HBI2.out.lt))
               have HOI3 := Lib.hid (HOI2.out.below hb3)
               have hown3 := Lib.hid (own_below hown2 hb3)
               clear hb3)
            | fail)
          rw [Nat.zero_add, List.nil_append] at hown3
          obtain ⟨ok, hok⟩ : ∃ ok, Pl.extends_ (bb : Int) hh more g l9 = ok := ⟨_, rfl⟩
          rw [hok]
          have hans : Pl.attested l more g = if ok = true then some t6 else none := by
            have h1 := HE2.out HFIT.out
            have hbo : Pl.blockOf ⟨t1, t2, t3, t4, t6, t7, t8, t9, l9⟩ = bb := by
              have := HBE.out
              have := HK2.out
              show (Pl.num t1 - 1) / 3 + 1 = bb
              omega
            have hho : Pl.sumN (Pl.headOf ⟨t1, t2, t3, t4, t6, t7, t8, t9, l9⟩) = hh := by
              rw [← HHE.out]
              unfold Pl.headOf
              rw [hbo, ← HX9.out, Q3.out, ← HEN.out, HB8.out, HO3.out, H7.out, H8.out, HI2.out]
            rw [hbo, hho, hok] at h1
            exact h1
          have HANS := Lib.hid hans
          clear hans hok
          go_wp2_with fail
          go_ret2
          refine ⟨v2, t6, ok, rfl, fun h => ⟨?_, hown3.out⟩, fun h => ?_, HFIN.out _ HOI3.out⟩
          · rw [HANS.out, h]; rfl
          · rw [HANS.out, h]; rfl
end Go.Proofs.YtljmklohgpaopaaDoor

namespace Go.Proofs.YtljmklohgpaopaaDoor
open Go.RowKit

def kindV (ok : Bool) : Value := if ok then .nilIface else .iface 25 (.int .i64 ((19 : Nat) : Int))
def kindN (ok : Bool) : Nat := if ok then 0 else 19
theorem kindV_err (w : World) (ok : Bool) : ErrV w (kindV ok) (kindN ok) ⟨#[]⟩ := by
  cases ok
  · exact ErrV.kind w 19
  · exact ErrV.nil w
theorem digest_cells (n : Int) (h : Nat) : (Value.int .i64 n :: hc h).toArray = #[.int .i64 n, .int .u8 ((h : Int) / 16777216), .int .u8 ((h : Int) / 65536 % 256), .int .u8 ((h : Int) / 256 % 256), .int .u8 ((h : Int) % 256)] := rfl
theorem factsD {W : World} {d : Nat} {n : Int} {h : Nat} (B : Blk W d 76 (Value.int .i64 n :: hc h)) :
    W.cell? ⟨d, 0, none⟩ = some (.int .i64 n) ∧ W.cell? ⟨d, 1, none⟩ = some (.int .u8 ((h : Int) / 16777216)) ∧ W.cell? ⟨d, 2, none⟩ = some (.int .u8 ((h : Int) / 65536 % 256)) ∧ W.cell? ⟨d, 3, none⟩ = some (.int .u8 ((h : Int) / 256 % 256)) ∧ W.cell? ⟨d, 4, none⟩ = some (.int .u8 ((h : Int) % 256)) :=
  ⟨B.cell 0, B.cell 1, B.cell 2, B.cell 3, B.cell 4⟩

set_option maxHeartbeats 1000000 in
theorem dayExtends_any (old more : Int) (h g : Nat) (A : Option Addr) (cap : Nat) (l : List UInt8) (w : World) (hto : more ≤ 9223372036854775807) (hh : h < 4294967296) (hgg : g < 4294967296) (hb : BytesAt w A l) (hm : l.length ≤ 140737488351232) (hcp : l.length ≤ cap) :
    Calls Tryd.prog 25 #[digest old h, digest more g, .slice A l.length cap] w fun e w' => e = .returned (kindV (Pl.extends_ old h more g l)) ∧ Below w.heap.size w w' := by
  have hb0 : Below w.heap.size w ((w.alloc (.cells (Value.int .i64 old :: hc h).toArray 76)).alloc (.cells (Value.int .i64 more :: hc g).toArray 76)) := ((Below.refl _ _).alloc (Nat.le_refl _) _).alloc (by simp) _
  rw [digest_cells, digest_cells] at hb0
  have HE := fun W h1 => extends_any old more h g A cap l W hto hh hgg h1 hm hcp
  have HEX := Lib.hid HE
  have HBB := Lib.hid (hb.keep hb0)
  have HB0 := Lib.hid hb0
  clear hb0 HE hb
  obtain ⟨ok, hok⟩ : ∃ ok, Pl.extends_ old h more g l = ok := ⟨_, rfl⟩
  have HOK := Lib.hid hok
  rw [hok]
  clear hok
  unfold digest
  go_enter Tryd.func25, Tryd.ntmps25
  go_wp2_with fail
  refine (HEX.out _ HBB.out).mono ?_
  rintro e w2 ⟨rfl, hb2⟩
  have H2 := Lib.hid (HB0.out.trans (hb2.mono HB0.out.size))
  rw [HOK.out]
  clear hb2
  cases ok with
  | true =>
    go_wp2_with fail
    go_ret
    exact ⟨rfl, H2.out⟩
  | false =>
    go_wp2_with fail
    go_ret
    exact ⟨rfl, H2.out⟩

theorem results_err1 {fn : Func} {t : Tmp} {tmps : Array Value} {w : World} {g : Nat} {k : Int} {u : ByteArray} (h : fn.results = #[.cell t 27]) (ht : tmps.getD t undef = .pointer (some ⟨g, 0, none⟩)) (hB : Blk w g 27 [.int .i64 k, .string u, .bool true]) :
    (results fn tmps).run Tryd.prog w = .ok (errA k u) w := by
  have c0 := hB.cell 0
  have c1 := hB.cell 1
  have c2 := hB.cell 2
  simp only [List.getElem?_cons_succ, List.getElem?_cons_zero] at c0 c1 c2
  simp only [Array.getD_eq_getD_getElem?] at ht
  simp [results, h, ht, go_sem, c0, c1, c2, errA, asAddr]

set_option maxHeartbeats 2000000 in
set_option maxRecDepth 100000 in
theorem plainExtends_any (old more : Int) (s t : ByteArray) (A : Option Addr) (cap : Nat) (l : List UInt8) (w : World) (hG : GE w) (hto : more ≤ 9223372036854775807) (hb : BytesAt w A l) (hm : l.length ≤ 140737488351232) (hcp : l.length ≤ cap) :
    Calls Tryd.prog 8 #[.int .i64 old, .string s, .int .i64 more, .string t, .slice A l.length cap] w fun e w' =>
      e = .returned (errA (kindN (Pl.extends_ old (Pl.hashOf s.data.toList) more (Pl.hashOf t.data.toList) l)) ⟨#[]⟩) ∧ Below w.heap.size w w' := by
  have hh := Pl.hashOf_lt s.data.toList
  have hgg := Pl.hashOf_lt t.data.toList
  obtain ⟨h, hhe⟩ : ∃ h, Pl.hashOf s.data.toList = h := ⟨_, rfl⟩
  obtain ⟨g, hge⟩ : ∃ g, Pl.hashOf t.data.toList = g := ⟨_, rfl⟩
  have H1 := fun W => hash_any s W
  have H2 := fun W => hash_any t W
  rw [hhe] at hh H1 ⊢
  rw [hge] at hgg H2 ⊢
  have HE := Lib.hid (fun W h1 => dayExtends_any old more h g A cap l W hto hh hgg h1 hm hcp)
  have HH1 := Lib.hid H1
  have HH2 := Lib.hid H2
  have hB0 := Lib.hid (Blk.new w 27 [.int .i64 0, .string ⟨#[]⟩, .bool false])
  have hb0 : Below w.heap.size w (w.alloc err0) := (Below.refl _ _).alloc (Nat.le_refl _) _
  have HB0 := Lib.hid hb0
  have HBY := Lib.hid hb
  obtain ⟨ok, hok⟩ : ∃ ok, Pl.extends_ old h more g l = ok := ⟨_, rfl⟩
  have HOK := Lib.hid hok
  rw [hok]
  clear hok H1 H2 hhe hge hb0 hb
  go_enter Tryd.func8, Tryd.ntmps8
  go_wp2_with fail
  refine (HH1.out _).mono ?_
  rintro e w1 ⟨rfl, hb1⟩
  have B1 := Lib.hid (HB0.out.trans (hb1.mono (by simp)))
  have E1 := Lib.hid (hB0.out.below hb1 (by simp))
  clear hb1
  unfold hashVal
  go_wp2_with fail
  refine (HH2.out _).mono ?_
  rintro e w2 ⟨rfl, hb2⟩
  have B2 := Lib.hid (B1.out.trans (hb2.mono B1.out.size))
  have E2 := Lib.hid (E1.out.below hb2 E1.out.lt)
  clear hb2
  unfold hashVal
  go_wp2_with fail
  refine (HE.out _ (HBY.out.keep B2.out)).mono ?_
  rintro e w3 ⟨rfl, hb3⟩
  have B3 := Lib.hid (B2.out.trans (hb3.mono B2.out.size))
  have E3 := Lib.hid (E2.out.below hb3 E2.out.lt)
  rw [HOK.out]
  clear hb3
  go_wp2_with fail
  refine (told_any _ _ ⟨#[]⟩ _ (hG.below B3.out) (kindV_err _ ok) (by cases ok <;> decide)).mono ?_
  rintro e w4 ⟨rfl, hb4⟩
  have B4 := Lib.hid (B3.out.trans (hb4.mono B3.out.size))
  have E4 := E3.out.below hb4 E3.out.lt
  obtain ⟨c0, c1, c2, f0, f1, f2⟩ := facts3 E4
  have HE4 := Lib.hid E4
  clear hb4 E4
  go_wp2_with fail
  refine bodyPost_ret (v := errA (kindN ok) ⟨#[]⟩) (results_err1 rfl rfl (HE4.out.set3 _ _ _)) rfl ⟨rfl, ?_⟩
  exact below_set3 B4.out (Nat.le_refl _) _ _ _

theorem own_low {w : World} {base base' n size : Nat} {e : TypeId} {v : Value} {xs : List Value} (h : w.ownsRow base e size v n xs) (hb : base' ≤ base) : w.ownsRow base' e size v n xs := by
  refine ⟨h.1, ?_⟩
  rcases h.2 with hn | ⟨g, cap, cur, hv, hg, rest⟩
  · exact .inl hn
  · exact .inr ⟨g, cap, cur, hv, Nat.le_trans hb hg, rest⟩
def AttP (val : Bool → Value) (base : Nat) (w : World) (l : List UInt8) (more : Int) (g : Nat) (e : Ending) (w' : World) : Prop :=
  ∃ v txt ok, e = .returned (.tuple #[v, val ok]) ∧ (ok = true → Pl.attested l more g = some txt ∧ w'.ownsRow base 5 1 v txt.length (bv txt)) ∧ (ok = false → Pl.attested l more g = none ∧ v = .slice none 0 0) ∧ Below w.heap.size w w'

set_option maxHeartbeats 1000000 in
theorem dayAttested_any (more : Int) (g : Nat) (A : Option Addr) (cap : Nat) (l : List UInt8) (w : World) (hto : more ≤ 9223372036854775807) (hgg : g < 4294967296) (hb : BytesAt w A l) (hA : ∀ p, A = some p → p.block < w.heap.size) (hm : l.length ≤ 140737488351232) (hcp : l.length ≤ cap) :
    Calls Tryd.prog 27 #[.slice A l.length cap, digest more g] w (AttP kindV w.heap.size w l more g) := by
  have hb0 : Below w.heap.size w (w.alloc (.cells (Value.int .i64 more :: hc g).toArray 76)) := (Below.refl _ _).alloc (Nat.le_refl _) _
  rw [digest_cells] at hb0
  have HE := Lib.hid (fun W h1 h2 => attested_any more g A cap l W hto hgg h1 h2 hm hcp)
  have HBB := Lib.hid (hb.keep hb0)
  have HB0 := Lib.hid hb0
  have hA1 : Hid (∀ p, A = some p → p.block < w.heap.size + 1) := fun p hp => Nat.lt_succ_of_lt (hA p hp)
  clear hb0 hb hA
  unfold digest
  go_enter Tryd.func27, Tryd.ntmps27
  go_wp2_with fail
  refine (HE.out _ HBB.out (by simpa using hA1.out)).mono ?_
  rintro e w2 ⟨v, txt, ok, rfl, hok, hno, hb2⟩
  have HOK := Lib.hid hok
  have HNO := Lib.hid hno
  have H2 := Lib.hid (HB0.out.trans (hb2.mono HB0.out.size))
  clear hb2 hok hno
  cases ok with
  | true =>
    go_wp2_with fail
    go_ret2
    refine ⟨v, txt, true, rfl, fun h => ⟨(HOK.out (by trivial)).1, own_low (HOK.out (by trivial)).2 (by simp)⟩, fun h => (by cases h), H2.out⟩
  | false =>
    go_wp2_with fail
    go_ret2
    exact ⟨_, txt, false, rfl, fun h => (by cases h), fun h => ⟨HNO.out (by trivial), rfl⟩, H2.out⟩

set_option maxHeartbeats 2000000 in
set_option maxRecDepth 100000 in
theorem plainAttested_any (more : Int) (t : ByteArray) (A : Option Addr) (cap : Nat) (l : List UInt8) (w : World) (hG : GE w) (hto : more ≤ 9223372036854775807) (hb : BytesAt w A l) (hA : ∀ p, A = some p → p.block < w.heap.size) (hm : l.length ≤ 140737488351232) (hcp : l.length ≤ cap) :
    Calls Tryd.prog 9 #[.slice A l.length cap, .int .i64 more, .string t] w (AttP (fun ok => errA (kindN ok) ⟨#[]⟩) w.heap.size w l more (Pl.hashOf t.data.toList)) := by
  have hgg := Pl.hashOf_lt t.data.toList
  obtain ⟨g, hge⟩ : ∃ g, Pl.hashOf t.data.toList = g := ⟨_, rfl⟩
  have H2 := fun W => hash_any t W
  rw [hge] at hgg H2 ⊢
  have HE := Lib.hid (fun W h1 h2 => dayAttested_any more g A cap l W hto hgg h1 h2 hm hcp)
  have HH2 := Lib.hid H2
  have hB0 := Lib.hid (Blk.new w 27 [.int .i64 0, .string ⟨#[]⟩, .bool false])
  have hb0 : Below w.heap.size w (w.alloc err0) := (Below.refl _ _).alloc (Nat.le_refl _) _
  have HB0 := Lib.hid hb0
  have HBY := Lib.hid hb
  have HA := Lib.hid hA
  clear H2 hge hb0 hb hA
  go_enter Tryd.func9, Tryd.ntmps9
  go_wp2_with fail
  refine (HH2.out _).mono ?_
  rintro e w2 ⟨rfl, hb2⟩
  have B2 := Lib.hid (HB0.out.trans (hb2.mono (by simp)))
  have E2 := Lib.hid (hB0.out.below hb2 (by simp))
  clear hb2
  unfold hashVal
  go_wp2_with fail
  refine (HE.out _ (HBY.out.keep B2.out) (fun p hp => Nat.lt_of_lt_of_le (HA.out p hp) B2.out.size)).mono ?_
  rintro e w3 ⟨v, txt, ok, rfl, hok, hno, hb3⟩
  have B3 := Lib.hid (B2.out.trans (hb3.mono B2.out.size))
  have E3 := Lib.hid (E2.out.below hb3 E2.out.lt)
  have HOK := Lib.hid (fun h => (⟨(hok h).1, (hok h).2⟩ : _ ∧ _))
  have HNO := Lib.hid hno
  have hs2 := B2.out.size
  clear hb3 hok hno
  go_wp2_with fail
  refine (told_any _ _ ⟨#[]⟩ _ (hG.below B3.out) (kindV_err _ ok) (by cases ok <;> decide)).mono ?_
  rintro e w4 ⟨rfl, hb4⟩
  have B4 := Lib.hid (B3.out.trans (hb4.mono B3.out.size))
  have E4 := E3.out.below hb4 E3.out.lt
  obtain ⟨c0, c1, c2, f0, f1, f2⟩ := facts3 E4
  have HE4 := Lib.hid E4
  have HOK4 := Lib.hid (fun h => (⟨(HOK.out (by trivial)).1, own_below (HOK.out (by trivial)).2 hb4⟩ : _ ∧ _))
  have hl2 := E2.out.lt
  clear hb4 E4
  go_wp2_with fail
  refine bodyPost_ret (v := .tuple #[v, errA (kindN ok) ⟨#[]⟩]) (results_err2 rfl rfl rfl (HE4.out.set3 _ _ _)) rfl ⟨v, txt, ok, rfl, fun h => ⟨(HOK4.out h).1, ?_⟩, HNO.out, below_set3 B4.out (Nat.le_refl _) _ _ _⟩
  have hne := (HOK4.out h).2.lt
  have hfar : v.ownBlock ≠ some w.heap.size := fun e => by have := (hne _ e).1; omega
  have hon : Only (· = w.heap.size) w4 (((w4.setCell ⟨w.heap.size, 0, none⟩ (.int .i64 (kindN ok : Nat))).setCell ⟨w.heap.size, 1, none⟩ (.string ⟨#[]⟩)).setCell ⟨w.heap.size, 2, none⟩ (.bool true)) :=
    (((Only.refl (· = w.heap.size) w4).setCell (p := ⟨w.heap.size, 0, none⟩) (.inl rfl) _).setCell (p := ⟨w.heap.size, 1, none⟩) (.inl rfl) _).setCell (p := ⟨w.heap.size, 2, none⟩) (.inl rfl) _
  exact own_low (hon.own (HOK4.out h).2 (fun k hk e => hfar (by rw [hk, e]))) (by omega)
end Go.Proofs.YtljmklohgpaopaaDoor
