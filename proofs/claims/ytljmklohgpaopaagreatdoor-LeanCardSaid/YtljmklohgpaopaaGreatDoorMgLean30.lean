/- THE LAW: for every input the call returns true, and what came in reads as it read. The two package-level variables that the row lists are tied to the program's text. Ahead of it stand: Lean: the whole walk. -/
import Derived.Test.YtljmklohgpaopaaGreatDoorMgLean29
import Derived.Test.YtljmklohgpaopaaGreatDoorMgLean1
import Derived.Test.YtljmklohgpaopaaGreatDoorMgLean19
import Derived.Test.YtljmklohgpaopaaGreatDoorCards
import Derived.Test.YtljmklohgpaopaaGreatDoorTie
import Derived.SevenTiedAt
set_option linter.unusedVariables false
set_option linter.unusedSimpArgs false

namespace Go.Proofs.YtljmklohgpaopaaGreatDoor
open Go.RowKit
set_option linter.unusedSectionVars false
variable [Inhabited LoT]

theorem LnAt.err {gT g : Nat} {vD : Value} {d : Pl.Dk} {p r0 : Nat} {s0 : Pl.ST 0} {Z B k be bf : Nat} {A : Option Addr} {w0 w w' : World} {r : Nat} {rd : Int} (h : LnAt gT g vD d p r0 s0 Z B k be bf A w0 w r rd) (hlo : LO = w0.heap.size) (hbe : w0.heap.size ≤ be) (hne : bf ≠ be) (ho : Only (· = be) w w') (k' : Int) (he' : Blk w' be 28 [.int .i64 k', .string ⟨#[]⟩, .bool true]) : LnAt gT g vD d p r0 s0 Z B k be bf A w0 w' r rd := by
  obtain ⟨G, ht, t, fr, h1, h2, h3, h4, h5, h6, h7⟩ := h.tw
  obtain ⟨k2, he⟩ := h.e
  have hk := one_kinds he
  have hg := Gk.of1 he rfl (by rw [hlo]; exact hbe) ho
  refine ⟨⟨G, ht, t, fr, h1.only ho hk (by decide) (by decide) (by decide) (by decide) (by decide), h2, h3, h4.only ho hk (by decide) (by decide), h5, ?_, h7⟩, h.rd, hg.1 h.ev, hg.2.1 h.ge, ⟨k', he'⟩, ho.blk h.f hne, byt_kinds h.v h.vt ho hk (by decide), fun q hq => (h.vt q hq).only ho hk (by decide), h.low.trans (ho.toBelow h.low.size (fun y hy e => by omega))⟩
  have h8 := h6.refs (Ext.refl G) (fun r a v hr => ⟨v, ho.blk_ hk hr (by decide), .inl rfl⟩) r
  exact h8
theorem only_err {w : World} {be : Nat} {a b c : Value} (h : Blk w be 28 [a, b, c]) (x0 x1 x2 : Value) : Only (· = be) w (((w.setCell ⟨be, 0, none⟩ x0).setCell ⟨be, 1, none⟩ x1).setCell ⟨be, 2, none⟩ x2) ∧ Blk (((w.setCell ⟨be, 0, none⟩ x0).setCell ⟨be, 1, none⟩ x1).setCell ⟨be, 2, none⟩ x2) be 28 [x0, x1, x2] :=
  ⟨(((Only.refl (· = be) w).setCell (p := ⟨be, 0, none⟩) (.inl rfl) x0).setCell (p := ⟨be, 1, none⟩) (.inl rfl) x1).setCell (p := ⟨be, 2, none⟩) (.inl rfl) x2, h.set3 _ _ _⟩
set_option maxRecDepth 100000 in
set_option maxHeartbeats 8000000 in
theorem lean_walk (count step size ask : Int) (w : World) (hlo : LO = w.heap.size) (hG : GE w) (hE : EvAt w) (hc : -9223372036854775808 ≤ count ∧ count ≤ 9223372036854775807) (hst : -9223372036854775808 ≤ step ∧ step ≤ 9223372036854775807) (hsz : -9223372036854775808 ≤ size ∧ size ≤ 9223372036854775807) (ha : -9223372036854775808 ≤ ask ∧ ask ≤ 9223372036854775807) :
    Calls Tryz.prog 4 #[.int .i64 count, .int .i64 step, .int .i64 size, .int .i64 ask] w fun e w' => e = .returned (.bool true) ∧ Below w.heap.size w w' := by
  obtain ⟨y, hy, hy9⟩ : ∃ y : Nat, pickOf count 1000 = (y : Int) ∧ y ≤ 999 := by
    refine ⟨(pickOf count 1000).toNat, ?_, ?_⟩ <;> unfold pickOf <;> split <;> omega
  obtain ⟨z, hz, hz9⟩ : ∃ y : Nat, pickOf step 9973 = (y : Int) ∧ y ≤ 9972 := by
    refine ⟨(pickOf step 9973).toNat, ?_, ?_⟩ <;> unfold pickOf <;> split <;> omega
  obtain ⟨Z, hZ, hZ9⟩ : ∃ y : Nat, pickOf size 30 = (y : Int) ∧ y ≤ 29 := by
    refine ⟨(pickOf size 30).toNat, ?_, ?_⟩ <;> unfold pickOf <;> split <;> omega
  obtain ⟨N, hN⟩ : ∃ N, 1 + y = N := ⟨_, rfl⟩
  obtain ⟨B, hB⟩ : ∃ N, 1 + z = N := ⟨_, rfl⟩
  have hN1 : 1 ≤ N := by omega
  have hN2 : N ≤ 1000 := by omega
  have hB1 : B ≤ 9973 := by omega
  have hNi : (1 : Int) + (y : Int) = (N : Int) := by omega
  have hBi : (1 : Int) + (z : Int) = (B : Int) := by omega
  obtain ⟨K, hK, hK9⟩ : ∃ y : Nat, pickOf ask (N : Int) = (y : Int) ∧ y < N := by
    refine ⟨(pickOf ask (N : Int)).toNat, ?_, ?_⟩ <;> unfold pickOf
    · have h1 := Int.emod_nonneg (if ask < 0 then -(ask + 1) else ask) (show (N : Int) ≠ 0 by omega)
      omega
    · have h1 := Int.emod_nonneg (if ask < 0 then -(ask + 1) else ask) (show (N : Int) ≠ 0 by omega)
      have h2 := Int.emod_lt_of_pos (if ask < 0 then -(ask + 1) else ask) (show (0 : Int) < (N : Int) by omega)
      omega
  have HP1 := Lib.hid (kpick_any count 1000 w hc ⟨by omega, by omega⟩)
  have HP2 := Lib.hid (kpick_any step 9973 w hst ⟨by omega, by omega⟩)
  have HP3 := Lib.hid (fun W => kpick_any size 30 W hsz ⟨by omega, by omega⟩)
  have HP4 := Lib.hid (fun W => kpick_any ask (N : Int) W ha ⟨by omega, by omega⟩)
  rw [hy] at HP1
  rw [hz] at HP2
  rw [hZ] at HP3
  rw [hK] at HP4
  have hlen0 : (Pl.Dk.new 4096).secs.length = 4096 := by unfold Pl.Dk.new Pl.most; rw [List.length_replicate]; rfl
  have hlife0 : (Pl.Dk.new 4096).life < 0 := by decide
  obtain ⟨d0, hd0⟩ : ∃ d, Pl.Dk.new 4096 = d := ⟨_, rfl⟩
  rw [hd0] at hlen0 hlife0
  have HNW := Lib.hid (new_any 4096 w)
  rw [hd0] at HNW
  have HLO := Lib.hid hlo
  have HG := Lib.hid hG
  have HE := Lib.hid hE
  clear hlo hG hE hc hst hsz ha hy hz hZ hK hN hB hd0
  go_enter Tryz.func4, Tryz.ntmps4
  go_wp2_with fail
  refine HP1.out.mono ?_
  rintro e w' ⟨rfl, rfl⟩
  go_wp2_with fail
  refine HP2.out.mono ?_
  rintro e w' ⟨rfl, rfl⟩
  go_wp2_with fail
  refine HNW.out.mono ?_
  rintro e w1 ⟨v, rfl, hd1, hb1, hfar⟩
  obtain ⟨g, hg⟩ : ∃ g, w.heap.size = g := ⟨_, rfl⟩
  rw [hg] at hd1 hfar ⊢
  have hld : ∀ k, dF g v k → LO ≤ k := fun k hk => by rw [HLO.out, hg]; exact hfar k hk
  have HCR := Lib.hid (show Calls Tryz.prog 18 #[.pointer (some ⟨g, 0, none⟩), .int .i64 0, .int .i64 4096] w1 fun e w' => e = .returned (errA 0 ⟨#[]⟩) ∧ CrPost g v d0 0 0 4096 w1 w' from tnewP_any g 0 4096 v d0 0 w1 hd1 hlife0 (by decide) (Nat.le_refl _) (by omega) ((Gk.of_below hb1).1 HE.out) ((Gk.of_below hb1).2.1 HG.out) hld)
  have HLD := Lib.hid hld
  have HB1 := Lib.hid hb1
  have HGG := Lib.hid hg
  clear hd1 hfar hld hb1
  go_wp2_with fail
  refine HCR.out.mono ?_
  rintro e w2 ⟨rfl, hcr⟩
  obtain ⟨d1, s0, rd1, hd1, hl1, hs1, hslot, hon, hrd1, _⟩ := hcr.opens hlife0 (by omega) (by decide)
  have hb2 : Below w.heap.size w w2 := HB1.out.trans (hcr.2.1.2.2.toBelow HB1.out.size (fun y hy hf => by rw [HLO.out] at hf; omega))
  have hge2 := hcr.2.1.2.1 ((Gk.of_below HB1.out).2.1 HG.out)
  have hev2 := hcr.2.1.1 ((Gk.of_below HB1.out).1 HE.out)
  have hrd1' := hrd1 (by omega) (by omega)
  unfold errA
  obtain ⟨be, hbe⟩ : ∃ g, w2.heap.size = g := ⟨_, rfl⟩
  obtain ⟨w3, hw3⟩ : ∃ x, w2.alloc (.cells #[.int .i64 0, .string ⟨#[]⟩, .bool true] 28) = x := ⟨_, rfl⟩
  have hb3 : Below w2.heap.size w2 w3 := by rw [← hw3]; exact (Below.refl _ _).alloc (Nat.le_refl _) _
  have BE3 : Blk w3 be 28 [.int .i64 0, .string ⟨#[]⟩, .bool true] := by rw [← hw3, ← hbe]; exact Blk.new w2 28 _
  have hd3 := hd1.below hb3
  have hb13 := hb2.trans (hb3.mono hb2.size)
  have HOP := Lib.hid (show Calls Tryz.prog 19 #[.pointer (some ⟨g, 0, none⟩), .int .i64 0, .int .i64 4096] w3 fun e w' => ∃ gT r, e = .returned (.tuple #[.pointer (some ⟨gT, 0, none⟩), errA 0 ⟨#[]⟩]) ∧ OpdPost gT g 0 4096 v d1 rd1 1 (Pl.top 0 s0) (Pl.dcount 4096 (Pl.secsOf 0 s0)) r w3 w' from topenP_any g 0 4096 v d1 rd1 1 _ _ w3 hd3 (by omega) hslot (Nat.le_refl _) (by decide) (by omega) (hge2.below hb3))
  have hs1' : d1.secs.length = 4096 := by omega
  have H3 := Lib.hid (And.intro hl1 (And.intro hs1' (And.intro hslot (And.intro hon (And.intro hrd1' (And.intro hb13 (And.intro (hev2.tfr (TFr.of_below hb3)) (And.intro (hge2.below hb3) (And.intro BE3 hd3)))))))))
  have hbew : w.heap.size ≤ be := by rw [← hbe]; exact hb2.size
  clear hcr hd1 hl1 hs1 hs1' hslot hon hrd1 hrd1' hb2 hge2 hev2 hb3 hb13 hd3
  go_wp2_with fail
  refine HOP.out.mono ?_
  rintro e w4 ⟨gT, r0, rfl, hop⟩
  unfold errA
  obtain ⟨hl1, hs1, hslot, hon, hrd1, hb13, hev3, hge3, BE3', hd3⟩ := H3.out
  obtain ⟨p, hp⟩ : ∃ p, Pl.dcount 4096 (Pl.secsOf 0 s0) = p := ⟨_, rfl⟩
  have hp1 : p ≤ 1 := by rw [← hp]; exact Pl.dcount_len 4096 (Pl.secsOf 0 s0)
  rw [hp] at hop hslot
  obtain ⟨rd4, hrd4, htw, hgr, hfr, hsv⟩ := hop.env (h := 0) (s := s0) (t := ([] : List Pl.Pr)) hon rfl hp.symm ⟨⟨by decide, fun p hp => by cases hp⟩, List.Pairwise.nil, fun p hp => by cases hp⟩ (by omega) (by omega) (by rw [HLO.out]; exact hb13.size) HLD.out
  have hoff := hop.2.2.2.2.2
  have hb34 : Below w.heap.size w w4 := hb13.trans (hoff.toBelow hb13.size (fun y hy hf => by rw [hf, ← HGG.out] at hy; omega))
  have hge4 : GE w4 := hoff.cell hge3 (hge3.off hd3)
  have hev4 : EvAt w4 := ⟨hoff.cell hev3.1 (hev3.off hd3), hoff.cell hev3.2.1 (hev3.off hd3), hoff.cell hev3.2.2 (hev3.off hd3)⟩
  have BE4 := hoff.blk BE3' (fun e => by obtain ⟨_, _, hgb⟩ := hd3.blk; exact (BE3'.ne hgb (by decide)) e)
  have hrd4' := hrd4 (by omega) (by omega)
  obtain ⟨bf, hbf⟩ : ∃ g, w4.heap.size = g := ⟨_, rfl⟩
  obtain ⟨w5, hw5⟩ : ∃ x, w4.alloc (.cells #[.int .i64 0, .string ⟨#[]⟩, .bool true] 28) = x := ⟨_, rfl⟩
  have hb5 : Below w4.heap.size w4 w5 := by rw [← hw5]; exact (Below.refl _ _).alloc (Nat.le_refl _) _
  have BF5 : Blk w5 bf 28 [.int .i64 0, .string ⟨#[]⟩, .bool true] := by rw [← hw5, ← hbf]; exact Blk.new w4 28 _
  have BE5 := BE4.below hb5 BE4.lt
  have hrdb : 0 ≤ rd4 ∧ rd4 ≤ 1000000 := by omega
  have hbfw : w.heap.size ≤ bf := by rw [← hbf]; exact hb34.size
  have hne : bf ≠ be := by have h1 := BE4.lt; rw [hbf] at h1; omega
  have H5 := Lib.hid (And.intro htw (And.intro hgr (And.intro hfr (And.intro hsv (And.intro hev4 (And.intro hge4 (And.intro hb34 hrdb)))))))
  have HB45 := Lib.hid hb5
  have HSL := Lib.hid (And.intro hl1 (And.intro hs1 hslot))
  have HBE5 := Lib.hid BE5
  have HBF5 := Lib.hid BF5
  have HNE := Lib.hid hne
  have HBEW := Lib.hid (And.intro hbew hbfw)
  obtain ⟨c0, c1, c2, _, _, _⟩ := facts3 BE5
  have q3 := fun W => fine_any 0 W
  unfold errA at q3
  have Q3 := Lib.hid q3
  clear hl1 hs1 hslot hon hrd1 hb13 hev3 hge3 BE3' BE3 hd3 hp hop hrd4 htw hgr hfr hsv hoff hb34 hge4 hev4 BE4 hrd4' hb5 BF5 BE5 hrdb hbfw hne hbew q3
  go_wp2_with fail
  refine (Q3.out _).mono ?_
  rintro e w6 ⟨rfl, hb6⟩
  have BF6 := HBF5.out.below hb6 HBF5.out.lt
  obtain ⟨x0, x1, x2, _, _, _⟩ := facts3 BF6
  clear c0 c1 c2
  go_wp2_with fail
  refine (Q3.out _).mono ?_
  rintro e w7 ⟨rfl, hb7⟩
  clear x0 x1 x2
  have hb57 : Below w5.heap.size w5 w7 := hb6.trans (hb7.mono hb6.size)
  obtain ⟨bv, hbvx⟩ : ∃ g, w7.heap.size = g := ⟨_, rfl⟩
  obtain ⟨w8, hw8⟩ : ∃ x, w7.alloc (.cells (zrow Z).toArray 5) = x := ⟨_, rfl⟩
  have hmk := make_bytes (Z : Int) Z rfl (by omega) w7
  rw [hw8, hbvx] at hmk
  have hb8 : Below w7.heap.size w7 w8 := by rw [← hw8]; exact (Below.refl _ _).alloc (Nat.le_refl _) _
  have hv8 : BytesAt w8 (some ⟨bv, 0, none⟩) (Pl.zeros Z) := by rw [← hw8, ← hbvx]; exact zeros_at w7 Z
  have ht8 : Typ w8 bv 5 := by rw [← hw8, ← hbvx]; exact ⟨_, _, heap_alloc_new w7 _⟩
  have hb58 : Below w5.heap.size w5 w8 := hb57.trans (hb8.mono hb57.size)
  have hb48 : Below w4.heap.size w4 w8 := HB45.out.trans (hb58.mono HB45.out.size)
  obtain ⟨htw, hgr, hfr, hsv, hev4, hge4, hb34, hrdb⟩ := H5.out
  have HL0 : Hid (LnAt gT g v d1 p r0 s0 Z B 0 be bf (some ⟨bv, 0, none⟩) w w8 r0 rd4) :=
    ⟨⟨_, 0, ([] : List Pl.Pr), 0, htw.below hb48, hgr, ⟨⟨⟨by decide, fun p hp => by cases hp⟩, List.Pairwise.nil, fun p hp => by cases hp⟩, Nat.zero_le _, fun k hk => by cases hk⟩, FrN.u (fun v pg hp => hp.below hb48) (UFr.of_below hb48).2.1 0 _ _ _ hfr, by omega, hsv.below hb48, hgr⟩, by omega, hev4.tfr (TFr.of_below hb48), hge4.below hb48, ⟨0, HBE5.out.below hb58 HBE5.out.lt⟩, HBF5.out.below hb58 HBF5.out.lt, hv8, fun q hq => by cases hq; exact ht8, hb34.trans (hb48.mono hb34.size)⟩
  clear hb6 BF6 hb7 hb57 hb8 hv8 ht8 hb58 hb48 htw hgr hfr hsv hev4 hge4 hb34 hrdb
  go_wp2_with fail
  refine (HP3.out _).mono ?_
  rintro e w' ⟨rfl, rfl⟩
  go_wp2_with fail
  go_loopw [18] (fun i wr => ∃ (k r : Nat) (rdk : Int), k ≤ N ∧ i = .int .i64 (k : Int) ∧ Hid (LnAt gT g v d1 p r0 s0 Z B k be bf (some ⟨bv, 0, none⟩) w wr r rdk)) (fun i _ => N - (intOf i).toNat)
  case atStart => exact ⟨0, r0, rd4, Nat.zero_le _, rfl, HL0⟩
  case round =>
    obtain ⟨k, r, rdk, hk, rfl, HLN⟩ := hrel
    clear hmk
    by_cases hkN : k < N
    · obtain ⟨P, hP⟩ : ∃ P : Nat, k * B = P := ⟨_, rfl⟩
      have hPb : P ≤ 1000 * 9973 := by rw [← hP]; exact Nat.mul_le_mul (by omega) hB1
      have hPi : (k : Int) * (B : Int) = (P : Int) := by rw [← hP, Int.natCast_mul]
      have hPw : IntKind.i64.wrap ((k : Int) * (B : Int)) = (P : Int) := by rw [hPi]; exact IntWalk.i64_in _ (by omega)
      have hPw' : IntKind.i64.wrap (P : Int) = (P : Int) := IntWalk.i64_in _ (by omega)
      obtain ⟨m, hm⟩ : ∃ m, P % 9973 = m := ⟨_, rfl⟩
      have hme : (P : Int) % 9973 = (m : Int) := by omega
      have hmt : Int.tmod (P : Int) 9973 = (m : Int) := by rw [Int.tmod_eq_emod_of_nonneg (by omega)]; exact hme
      have hmw : IntKind.i64.wrap (m : Int) = (m : Int) := IntWalk.i64_in _ (by omega)
      have hkI : Hid (keyI B k = keyL m) := by rw [Hid, keyI, hP, hm]
      have HKEY := Lib.hid (key_any m (by omega) wr)
      have qk : (k : Int) < (N : Int) := by omega
      clear hP hm
      go_wp2_with fail
      refine HKEY.out.mono ?_
      rintro e wk ⟨Ak, ck, rfl, hkb, hbk⟩
      have HLK := Lib.hid (HLN.out.below hbk)
      have HPUT := Lib.hid (HLK.out.put HLO.out HSL.out.1 hp1 (by omega) (by omega) Ak ck Z (by rw [hkI.out]; exact hkb))
      unfold errA at HPUT
      clear hkb hbk
      go_wp2_with fail
      refine HPUT.out.mono ?_
      rintro e wp ⟨rfl, r', rd', hln⟩
      obtain ⟨k0, hbep⟩ := hln.e
      obtain ⟨c0, c1, c2, f0, f1, f2⟩ := facts3 hbep
      obtain ⟨hoe, hbe2⟩ := only_err hbep (.int .i64 0) (.string ⟨#[]⟩) (.bool true)
      obtain ⟨we, hwe⟩ : ∃ x, ((wp.setCell ⟨be, 0, none⟩ (.int .i64 0)).setCell ⟨be, 1, none⟩ (.string ⟨#[]⟩)).setCell ⟨be, 2, none⟩ (.bool true) = x := ⟨_, rfl⟩
      rw [hwe] at hoe hbe2
      have HLE := Lib.hid (hln.err HLO.out HBEW.out.1 HNE.out hoe 0 hbe2)
      obtain ⟨e0, e1, e2, _, _, _⟩ := facts3 hbe2
      clear hln hbep hoe hbe2
      go_wp2_with fail
      refine (Q3.out _).mono ?_
      rintro e wz ⟨rfl, hbz⟩
      have HLZ := Lib.hid (HLE.out.below hbz)
      clear hbz
      go_wp2_with fail
      exact ⟨⟨k + 1, r', rd', by omega, by go_num, HLZ.out⟩, by simp [intOf]; omega⟩
    · obtain rfl : k = N := by omega
      have HSV := Lib.hid (HLN.out.save HLO.out HSL.out.1 HSL.out.2.1 hp1 hN1 hN2 HSL.out.2.2)
      unfold errA at HSV
      have qk : ¬ (k : Int) < (k : Int) := by omega
      go_wp2_with fail
      refine HSV.out.mono ?_
      rintro e ws ⟨rfl, d2, rd2, ht, t, s, hss⟩
      obtain ⟨k0, hbep⟩ := hss.e
      obtain ⟨c0, c1, c2, f0, f1, f2⟩ := facts3 hbep
      obtain ⟨hoe, hbe2⟩ := only_err hbep (.int .i64 0) (.string ⟨#[]⟩) (.bool true)
      obtain ⟨w9, hw9⟩ : ∃ x, ((ws.setCell ⟨be, 0, none⟩ (.int .i64 0)).setCell ⟨be, 1, none⟩ (.string ⟨#[]⟩)).setCell ⟨be, 2, none⟩ (.bool true) = x := ⟨_, rfl⟩
      rw [hw9] at hoe hbe2
      have hs9 := hss.err HLO.out HBEW.out.1 HNE.out hoe 0 hbe2
      have HS9 := Lib.hid hs9
      have HBE9 := Lib.hid hbe2
      have HCP := Lib.hid (copy_any g v d2 rd2 w9 hs9.disk)
      clear hss hbep hoe hbe2 hs9
      go_wp2_with fail
      refine HCP.out.mono ?_
      rintro e w10 ⟨g2, v2, rfl, hd10, hb10, hfar⟩
      have HB10 := Lib.hid hb10
      have hld2 : ∀ k, dF g2 v2 k → LO ≤ k := fun k hk => by rw [HLO.out]; exact Nat.le_trans HS9.out.low.size (hfar k hk)
      have HLD2 := Lib.hid hld2
      have HFAR := Lib.hid (hfar g2 (.inl rfl))
      have HRD := Lib.hid (reads_any g2 v2 d2 rd2 w10 hd10)
      have HD10 := Lib.hid hd10
      have hge10 := HS9.out.ge.below hb10
      have HOP2 := Lib.hid (show Calls Tryz.prog 19 #[.pointer (some ⟨g2, 0, none⟩), .int .i64 0, .int .i64 4096] w10 fun e w' => ∃ gT r, e = .returned (.tuple #[.pointer (some ⟨gT, 0, none⟩), errA 0 ⟨#[]⟩]) ∧ OpdPost gT g2 0 4096 v2 d2 rd2 2 (Pl.top ht s) (Pl.dcount 4096 (Pl.secsOf ht s)) r w10 w' from topenP_any g2 0 4096 v2 d2 rd2 2 _ _ w10 hd10 (by have := HS9.out.life; omega) HS9.out.slots (Nat.le_refl _) (by decide) (by have := HS9.out.len; omega) hge10)
      clear hd10 hb10 hfar hld2 hge10
      go_wp2_with fail
      refine HRD.out.mono ?_
      rintro e w' ⟨rfl, rfl⟩
      go_wp2_with fail
      refine HOP2.out.mono ?_
      rintro e w12 ⟨gT2, r2, rfl, hop⟩
      unfold errA
      have hoff := hop.2.2.2.2.2
      have hev10 := HS9.out.ev.tfr (TFr.of_below HB10.out)
      have hge10 := HS9.out.ge.below HB10.out
      have hbeg : be ≠ g2 := fun e => by have h1 := HBE9.out.lt; have h2 := HFAR.out; omega
      have hbfg : bf ≠ g2 := fun e => by have h1 := HS9.out.f.lt; have h2 := HFAR.out; omega
      have BE12 := hoff.blk (HBE9.out.below HB10.out HBE9.out.lt) hbeg
      have BF12 := hoff.blk (HS9.out.f.below HB10.out HS9.out.f.lt) hbfg
      have hev12 : EvAt w12 := ⟨hoff.cell hev10.1 (hev10.off HD10.out), hoff.cell hev10.2.1 (hev10.off HD10.out), hoff.cell hev10.2.2 (hev10.off HD10.out)⟩
      have hge12 : GE w12 := hoff.cell hge10 (hge10.off HD10.out)
      have hl10 : Below w.heap.size w w10 := HS9.out.low.trans (HB10.out.mono HS9.out.low.size)
      have hl12 : Below w.heap.size w w12 := hl10.trans (hoff.toBelow hl10.size (fun y hy hf => by have h1 := HS9.out.low.size; have h2 := HFAR.out; omega))
      obtain ⟨rd12, hrd12, htw12, hgr12, _, _⟩ := hop.env (h := ht) (s := s) (t := t) HS9.out.on rfl rfl HS9.out.grown.ok (by have := HS9.out.hh; omega) (by have := HS9.out.len; omega) (by rw [HLO.out]; exact hl10.size) HLD2.out
      have hrdb := hrd12 HS9.out.rd.1 (by have := HS9.out.rd.2; omega)
      obtain ⟨x0, x1, x2, y0, y1, y2⟩ := facts3 BF12
      obtain ⟨hoe, hbf2⟩ := only_err BF12 (.int .i64 0) (.string ⟨#[]⟩) (.bool true)
      obtain ⟨w13, hw13⟩ : ∃ x, ((w12.setCell ⟨bf, 0, none⟩ (.int .i64 0)).setCell ⟨bf, 1, none⟩ (.string ⟨#[]⟩)).setCell ⟨bf, 2, none⟩ (.bool true) = x := ⟨_, rfl⟩
      rw [hw13] at hoe hbf2
      have hk13 := one_kinds BF12
      have hgk13 := Gk.of1 BF12 rfl (by rw [HLO.out]; exact HBEW.out.2) hoe
      have BE13 := hoe.blk BE12 (fun e => HNE.out e.symm)
      have hl13 : Below w.heap.size w w13 := hl12.trans (hoe.toBelow hl12.size (fun y hy e => by have h1 := HBEW.out.2; omega))
      have H13 := Lib.hid (And.intro (htw12.only hoe hk13 (by decide) (by decide) (by decide) (by decide) (by decide)) (And.intro hgr12 (And.intro (hgk13.1 hev12) (And.intro (hgk13.2.1 hge12) (And.intro hl13 hrdb)))))
      have HBF13 := Lib.hid hbf2
      obtain ⟨e0, e1, e2, _, _, _⟩ := facts3 BE13
      clear hop hoff hev10 hge10 hbeg hbfg BE12 BF12 hev12 hge12 hl10 hl12 hrd12 htw12 hgr12 hrdb hoe hbf2 hk13 hgk13 BE13 hl13
      go_wp2_with fail
      refine (Q3.out _).mono ?_
      rintro e w14 ⟨rfl, hb14⟩
      have BF14 := HBF13.out.below hb14 HBF13.out.lt
      obtain ⟨z0, z1, z2, _, _, _⟩ := facts3 BF14
      clear e0 e1 e2
      go_wp2_with fail
      refine (Q3.out _).mono ?_
      rintro e w15 ⟨rfl, hb15⟩
      have HB15 : Hid (Below w13.heap.size w13 w15) := hb14.trans (hb15.mono hb14.size)
      clear z0 z1 z2 hb14 BF14 hb15
      go_wp2_with fail
      refine (HP4.out _).mono ?_
      rintro e w' ⟨rfl, rfl⟩
      obtain ⟨P, hP⟩ : ∃ P : Nat, K * B = P := ⟨_, rfl⟩
      have hPb : P ≤ 1000 * 9973 := by rw [← hP]; exact Nat.mul_le_mul (by omega) hB1
      have hPi : (K : Int) * (B : Int) = (P : Int) := by rw [← hP, Int.natCast_mul]
      have hPw : IntKind.i64.wrap ((K : Int) * (B : Int)) = (P : Int) := by rw [hPi]; exact IntWalk.i64_in _ (by omega)
      have hPw' : IntKind.i64.wrap (P : Int) = (P : Int) := IntWalk.i64_in _ (by omega)
      obtain ⟨m, hm⟩ : ∃ m, P % 9973 = m := ⟨_, rfl⟩
      have hme : (P : Int) % 9973 = (m : Int) := by omega
      have hmt : Int.tmod (P : Int) 9973 = (m : Int) := by rw [Int.tmod_eq_emod_of_nonneg (by omega)]; exact hme
      have hmw : IntKind.i64.wrap (m : Int) = (m : Int) := IntWalk.i64_in _ (by omega)
      have hkI : Hid (keyI B K = keyL m) := by rw [Hid, keyI, hP, hm]
      have HKEY := Lib.hid (key_any m (by omega) w15)
      clear hP hm
      go_wp2_with fail
      refine HKEY.out.mono ?_
      rintro e w16 ⟨Ak, ck, rfl, hkb, hbk⟩
      have hb16 : Below w13.heap.size w13 w16 := HB15.out.trans (hbk.mono HB15.out.size)
      obtain ⟨htw, hgr, hev, hge, hl13, hrdb⟩ := H13.out
      have HGET := Lib.hid (LnGet (htw.below hb16) hgr HS9.out.grown HS9.out.life HS9.out.hh hK9 (hev.tfr (TFr.of_below hb16)) (hge.below hb16) Ak ck (by rw [hkI.out]; exact hkb) (by have := HS9.out.rd; omega))
      unfold errA at HGET
      have HL16 : Hid (Below w.heap.size w w16) := hl13.trans (hb16.mono hl13.size)
      have HRB := Lib.hid hrdb
      clear hkb hbk hb16 htw hgr hev hge hl13 hrdb
      go_wp2_with fail
      refine HGET.out.mono ?_
      rintro e wv ⟨A3, cap3, rd3, rfl, hd3, hr0, hr1, hlv⟩
      obtain ⟨bg, hbg⟩ : ∃ g, wv.heap.size = g := ⟨_, rfl⟩
      obtain ⟨w17, hw17⟩ : ∃ x, wv.alloc (.cells #[.int .i64 0, .string ⟨#[]⟩, .bool true] 28) = x := ⟨_, rfl⟩
      have hb17 : Below wv.heap.size wv w17 := by rw [← hw17]; exact (Below.refl _ _).alloc (Nat.le_refl _) _
      have BG17 : Blk w17 bg 28 [.int .i64 0, .string ⟨#[]⟩, .bool true] := by rw [← hw17, ← hbg]; exact Blk.new wv 28 _
      obtain ⟨z0, z1, z2, _, _, _⟩ := facts3 BG17
      have hlv' : Below w.heap.size w wv := HL16.out.trans (hlv.toBelow HL16.out.size (fun y hy hf => by rw [HLO.out] at hf; omega))
      have HLV := Lib.hid (hlv'.trans (hb17.mono hlv'.size))
      have HD17 := Lib.hid (hd3.below hb17)
      have hrs : 0 ≤ rd2 ∧ rd2 ≤ 2000000 := HS9.out.rd
      have hrb := HRB.out
      have hsub : IntKind.i64.wrap (rd3 - rd2) = rd3 - rd2 := IntWalk.i64_in _ (by omega)
      have hle : rd3 - rd2 ≤ 20 := by omega
      have hle' : decide (rd3 - rd2 ≤ 20) = true := decide_eq_true hle
      clear hd3 hlv hlv' hb17 BG17
      go_wp2_with fail
      refine (Q3.out _).mono ?_
      rintro e w18 ⟨rfl, hb18⟩
      have HRD3 := Lib.hid (reads_any g2 v2 d2 rd3 w18 (HD17.out.below hb18))
      have HL18 : Hid (Below w.heap.size w w18) := HLV.out.trans (hb18.mono HLV.out.size)
      clear z0 z1 z2 hb18
      go_wp2_with fail
      refine HRD3.out.mono ?_
      rintro e w' ⟨rfl, rfl⟩
      go_wp2_with fail
      go_ret
      exact ⟨rfl, HL18.out⟩
end Go.Proofs.YtljmklohgpaopaaGreatDoor

namespace Go.Proofs.YtljmklohgpaopaaGreatDoor
open Go.ChangeShapes Go.WideShapes Go.ChangeAt Go.RowKit
set_option linter.unusedVariables false

set_option maxRecDepth 100000 in
theorem lean_contract (H : Type) (enc : TypeId × Value → H) (W : World) (base : Nat) (args : Array Value) (ds gs : List (DataW H)) (before : List MemPlace)
    (hval : ∀ (j : Nat) t v, Tryz.f4.params[j]? = some t → args[j]? = some v → Value.okWide Tryz.prog W .any base t v)
    (hW : DataW.Whole enc Tryz.prog Tryz.f4.params.toList Rows.leanSpec.vars false W args.toList ds gs before)
    (hG : GE W) (hE : EvAt W) :
    Calls Tryz.prog 4 args W fun e W' => ∃ v, e = .returned v ∧ Rows.leanSpec.post enc Tryz.prog Tryz.f4 false true false false W args v W' := by
  have hW' := hW
  obtain ⟨p, q, hA0, hV, rfl, hfz, hnd⟩ := hW
  have hA : DataW.TrodAll enc Tryz.prog W 0 (fun _ => true) true Tryz.f4.params.toList args.toList ds p := hA0
  have hlt : ∀ x ∈ p, x.block < W.heap.size := fun x hx => hW'.lt x (by simp [hx])
  have hrd : ∀ t ∈ Tryz.f4.params.toList, Tryz.prog.readableRec t = true ∧ t < Tryz.prog.types.size := by
    rw [Tryz.params4]
    intro t ht
    simp only [List.mem_cons, List.not_mem_nil, or_false] at ht
    rcases ht with rfl | rfl | rfl | rfl <;> exact ⟨by kernel_rfl, of_decide_eq_true (by kernel_rfl)⟩
  have hstay := fun W' (hb : Below W.heap.size W W') => args_stay (H := H) (enc := enc) laidOut hb _ _ _ _ hrd hA hlt
  rw [Tryz.params4] at hA hval
  obtain ⟨v0, vs0, d0, ds0, p0, q0, hargs, rfl, rfl, h0, hA1⟩ := trodAll_cons hA
  obtain ⟨v1, vs1, d1, ds1, p1, q1, rfl, rfl, rfl, h1, hA2⟩ := trodAll_cons hA1
  obtain ⟨v2, vs2, d2, ds2, p2, q2, rfl, rfl, rfl, h2, hA3⟩ := trodAll_cons hA2
  obtain ⟨v3, vs3, d3, ds3, p3, q3, rfl, rfl, rfl, h3, hA4⟩ := trodAll_cons hA3
  obtain ⟨rfl, rfl, rfl⟩ := trodAll_nil hA4
  obtain ⟨rfl, rfl⟩ := trodVars_none hV
  obtain rfl : args = #[v0, v1, v2, v3] := by cases args; simp_all
  obtain ⟨n0, rfl, rfl, rfl, wn0⟩ := open_int Tryz.underlying3 (hval 0 3 v0 rfl rfl) h0
  obtain ⟨n1, rfl, rfl, rfl, wn1⟩ := open_int Tryz.underlying3 (hval 1 3 v1 rfl rfl) h1
  obtain ⟨n2, rfl, rfl, rfl, wn2⟩ := open_int Tryz.underlying3 (hval 2 3 v2 rfl rfl) h2
  obtain ⟨n3, rfl, rfl, rfl, wn3⟩ := open_int Tryz.underlying3 (hval 3 3 v3 rfl rfl) h3
  have key : ∀ n : Int, (Lit.int .i64 n).wf = true → -9223372036854775808 ≤ n ∧ n ≤ 9223372036854775807 := fun n h => by
    simp only [Lit.wf, IntKind.min, IntKind.max, IntKind.signed, IntKind.bits, Bool.and_eq_true, decide_eq_true_eq, if_true] at h
    omega
  refine (@lean_walk ⟨⟨W.heap.size⟩⟩ n0 n1 n2 n3 W rfl hG hE (key _ wn0) (key _ wn1) (key _ wn2) (key _ wn3)).mono fun e W' ⟨he, bel⟩ => ?_
  subst he
  exact ⟨_, rfl, _, _, _, [], _, [], hW', trodAll_mk1 (shut_bool Tryz.underlying4 _), hstay W' bel, rfl, bel.frame _, fun h => by cases h⟩

theorem lean_reads (os : Os) {H : Type} (enc : TypeId × Value → H) : ∃ ds places, DataW.whole enc Tryz.prog ((laidWorld2 os).forCall (fun _ _ => 0) ⟨#[], #[.int .i64 0, .int .i64 0, .int .i64 0, .int .i64 0], []⟩).memory Tryz.f4.params.toList Rows.leanSpec.vars false (#[.int .i64 0, .int .i64 0, .int .i64 0, .int .i64 0] : Array Value).toList 8 = some (ds, [], places) :=
  ⟨[.lit (.int .i64 0), .lit (.int .i64 0), .lit (.int .i64 0), .lit (.int .i64 0)], [], by kernel_rfl⟩

set_option maxRecDepth 100000 in
theorem lean_lifted (os : Os) (started : os.Started) (H : Type) (enc : TypeId × Value → H) (F : Stop.Interp) :
    ReturnsInHanded {} Tryz.checked os 4 .any ((OpenSpec.ofChange Rows.leanSpec).preRow enc Tryz.prog Tryz.f4 Rows.leanRow.domain false Rows.leanRow.laid) (((OpenSpec.ofChange Rows.leanSpec).at F).post enc Tryz.prog Tryz.f4 false true false false) := by
  obtain ⟨ds, places, hx⟩ := lean_reads os enc
  refine returnsInHanded_of_row (C := Tryz.checked) (s := OpenSpec.ofChange Rows.leanSpec) own started (by kernel_rfl) Tryz.func4
    (witness_row_at (enc := enc) (C := Tryz.checked) false (laidWorld2 os) #[.int .i64 0, .int .i64 0, .int .i64 0, .int .i64 0] rfl (by kernel_rfl) (by kernel_rfl) (by kernel_rfl)
      (OpenSpec.preRow_of_cond 8 hx (by kernel_rfl) (fun k hk => by cases hk) (by kernel_rfl) (laidWorld2_met os _))) ?_
  intro W base args ds gs before hval hW _ _ _ hL _ _
  exact lean_contract H enc W base args ds gs before hval hW (both_of_laid hL).1 (both_of_laid hL).2

theorem lean_said : Rows.LeanSaid :=
  OpenClaim.holds_of_cond 4 Tryz.f4 rfl rfl rfl rfl rfl rfl rfl ⟨rfl, rfl, rfl, rfl, rfl⟩ rfl rfl rfl rfl rfl (by kernel_rfl) Tryz.func4 (by kernel_rfl)
    (of_decide_eq_true (by kernel_rfl)) (by unfold Func.isWrapper; first | (rw [if_pos (by decide +kernel)]; kernel_rfl) | (rw [if_neg (by decide +kernel)]; exact ⟨rfl, rfl⟩))
    (fun os started H enc _ F => by rw [OpenClaim.pre_eq_preRow]; exact lean_lifted os started H enc F)

theorem lean_plain (f : FuncId) (fn : Func) (hf : Tryz.pinned.checked.prog.funcNamed Rows.leanRow.func = some f) (hfn : Tryz.pinned.checked.prog.funcs[f]? = some fn) :
    true = Tryz.pinned.checked.prog.looks [] ∧ ∀ (j : Nat) t, fn.params[j]? = some t → Tryz.pinned.checked.prog.wantsStandIn t = false := by
  obtain rfl : f = 4 := Option.some.inj ((show Tryz.prog.funcNamed Rows.leanRow.func = some 4 by kernel_rfl).symm.trans hf) |>.symm
  obtain rfl : fn = Tryz.f4 := (Option.some.inj (Tryz.func4.symm.trans hfn)).symm
  refine ⟨by kernel_rfl, fun j t ht => ?_⟩
  rw [Tryz.params4] at ht
  have hall : ∀ t ∈ ([3, 3, 3, 3] : List TypeId), Tryz.pinned.checked.prog.wantsStandIn t = false := by
    intro t ht
    simp only [List.mem_cons, List.not_mem_nil, or_false] at ht
    rcases ht with rfl | rfl | rfl | rfl <;> kernel_rfl
  exact hall t (by simpa using Array.mem_of_getElem? ht)

theorem lean_card : Rows.LeanCardSaid :=
  Claim7.holds_tied_plain_at .later [] _ _ _ _ lean_said (fun _ h => by cases h) (by kernel_rfl) (fun _ h => by cases h) lean_row_tie rfl ⟨rfl, rfl⟩ (by kernel_rfl) rfl lean_plain (by kernel_rfl)
#print axioms lean_card
end Go.Proofs.YtljmklohgpaopaaGreatDoor
