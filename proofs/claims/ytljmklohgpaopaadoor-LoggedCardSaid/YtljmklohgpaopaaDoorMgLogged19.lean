/- THE LAW Logged: for every input the call returns true, and what came in reads as it read. The one package-level variable that the row lists is tied to the program's text. Ahead of it stand: The harness's act: any act. THE LAW Logged, walked. -/
import Derived.Test.YtljmklohgpaopaaDoorMgLogged18
import Derived.Test.YtljmklohgpaopaaDoorMgLogged1
import Derived.Test.YtljmklohgpaopaaDoorCards
import Derived.Test.YtljmklohgpaopaaDoorTie
import Derived.SevenTiedAt
set_option linter.unusedVariables false
set_option linter.unusedSimpArgs false

namespace Go.Proofs.YtljmklohgpaopaaDoor
open Go.RowKit

theorem KLog.below {B : Nat} {w w' : World} {gx data k : Nat} (h : KLog B w gx data k) (hb : Below w.heap.size w w') : KLog B w' gx data k := by
  obtain ⟨g, gl, v, va, vall, vs, d, rd, l, ss, safe, rs, bad, hm, hok, hep⟩ := h
  exact ⟨g, gl, v, va, vall, vs, d, rd, l, ss, safe, rs, bad, hm.below hb, hok, hep⟩

set_option maxHeartbeats 2000000 in
set_option maxRecDepth 100000 in
theorem act_open (B gx data k i : Nat) (s : ByteArray) (w : World) (hi : i < s.size) (hs : s.size ≤ 4096) (h : KLog B w gx data k) (hda : 2 ≤ data) (hG : GE w) (hGB : 0 < B) (hB : B ≤ w.heap.size) (hk : k ≤ 5000) (hc : s[i].toNat % 8 = 7) :
    Calls Tryd.prog 22 #[.pointer (some ⟨gx, 0, none⟩), .string s, .int .i64 (i : Nat)] w (ActPost B gx data k w) := by
  obtain ⟨c, hcc⟩ : ∃ c, s[i] = c := ⟨_, rfl⟩
  rw [hcc] at hc
  have hq : ∃ q : Nat, q ≤ 31 ∧ ((c.toNat : Nat) : Int).tdiv 8 = (q : Int) := ⟨c.toNat / 8, by have := c.toNat_lt; omega, by rw [Int.tdiv_eq_ediv_of_nonneg (by omega)]; omega⟩
  obtain ⟨q, hq1, hq2⟩ := hq
  have hr : ((c.toNat : Nat) : Int).tmod 8 = 7 := by rw [Int.tmod_eq_emod_of_nonneg (by omega)]; omega
  have hi2 : (i : Int) < (s.size : Int) := by omega
  have HRA := Lib.hid (raws_any s (i + 1) w (by omega) hs)
  rw [show (((i + 1 : Nat) : Nat) : Int) = (i : Int) + 1 by push_cast; rfl] at HRA
  have H := Lib.hid h
  have HG := Lib.hid hG
  clear h hG hc
  go_enter Tryd.func22, Tryd.ntmps22
  go_wp2_with fail
  refine HRA.out.mono ?_
  rintro e w1 ⟨A, cap, rfl, hown, hb1⟩
  have HOP := Lib.hid (opens_any B gx data k A cap q (rawOf s (i + 1)) w1 (H.out.below hb1) ⟨own_low hown (Nat.zero_le _), rawOf_raw s _, by rw [rawOf_length]; omega⟩ hq1 hda (HG.out.below hb1) hGB (Nat.le_trans hB hb1.size) hk)
  have HB1 : Hid (Below B w w1) := hb1.mono hB
  clear hown hb1
  go_wp2_with fail
  refine HOP.out.mono ?_
  rintro e w2 ⟨rfl, hkl, hb2⟩
  have HKL := Lib.hid hkl
  have HB2 : Hid (Below B w w2) := HB1.out.trans hb2
  clear hkl hb2
  go_wp2_with fail
  go_ret
  exact ⟨rfl, HKL.out, HB2.out⟩

theorem act_any (B gx data k i : Nat) (s : ByteArray) (w : World) (hi : i < s.size) (hs : s.size ≤ 4096) (h : KLog B w gx data k) (hda : 2 ≤ data) (hG : GE w) (hGB : 0 < B) (hB : B ≤ w.heap.size) (hk : k ≤ 5000) :
    Calls Tryd.prog 22 #[.pointer (some ⟨gx, 0, none⟩), .string s, .int .i64 (i : Nat)] w (ActPost B gx data k w) := by
  have h8 : s[i].toNat % 8 < 8 := Nat.mod_lt _ (by decide)
  by_cases c0 : s[i].toNat % 8 = 0
  · exact act_append0 B gx data k i s w hi h hG hGB hB hk c0
  by_cases c1 : s[i].toNat % 8 = 1
  · exact act_append1 B gx data k i s w hi h hG hGB hB hk c1
  by_cases c2 : s[i].toNat % 8 = 2
  · exact act_append2 B gx data k i s w hi h hG hGB hB hk c2
  by_cases c3 : s[i].toNat % 8 = 3
  · exact act_sync3 B gx data k i s w hi h hG hGB hB hk c3
  by_cases c4 : s[i].toNat % 8 = 4
  · exact act_sync4 B gx data k i s w hi h hG hGB hB hk c4
  by_cases c5 : s[i].toNat % 8 = 5
  · exact act_reset B gx data k i s w hi h hG hGB hB hk c5
  by_cases c6 : s[i].toNat % 8 = 6
  · exact act_die B gx data k i s w hi h hG hGB hB hk c6
  exact act_open B gx data k i s w hi hs h hda hG hGB hB hk (by omega)
end Go.Proofs.YtljmklohgpaopaaDoor

namespace Go.Proofs.YtljmklohgpaopaaDoor
open Go.RowKit

theorem Blk.offE {w : World} {c : Nat} {t : TypeId} {cs : List Value} (h : Blk w c t cs) (b k : Nat) (hn : c ≠ b) : Blk (Go.Proofs.YtljmklohgpaopaaDoor.set3 w b k) c t cs :=
  ((((Only.refl (· = b) w).setCell (p := ⟨b, 0, none⟩) (.inl rfl) _).setCell (p := ⟨b, 1, none⟩) (.inl rfl) _).setCell (p := ⟨b, 2, none⟩) (.inl rfl) _).blk h hn

set_option maxHeartbeats 10000000 in
set_option maxRecDepth 100000 in
theorem logged_any (sectors : Int) (s : ByteArray) (w : World) (hG : GE w) (hsec : -9223372036854775808 ≤ sectors ∧ sectors ≤ 9223372036854775807) :
    Calls Tryd.prog 5 #[.int .i64 sectors, .string s] w fun e w' => e = .returned (.bool true) ∧ Below w.heap.size w w' := by
  by_cases hs : 4096 < s.size
  · have hs1 : (4096 : Int) < (s.size : Int) := by omega
    have hs2 : decide ((4096 : Int) < (s.size : Int)) = true := decide_eq_true hs1
    clear hs
    go_enter Tryd.func5, Tryd.ntmps5
    go_wp2_with fail
    go_ret
    exact ⟨rfl, Below.refl _ _⟩
  have hE := GE.lt hG
  have hs1 : ¬ (4096 : Int) < (s.size : Int) := by omega
  have hs2 : decide ((4096 : Int) < (s.size : Int)) = false := by simpa using hs1
  have HS : Hid (s.size ≤ 4096) := by rw [Hid]; omega
  obtain ⟨y, hy, hy39⟩ : ∃ y : Nat, pickOf sectors 40 = (y : Int) ∧ y ≤ 39 := by
    refine ⟨(pickOf sectors 40).toNat, ?_, ?_⟩ <;> unfold pickOf <;> split <;> omega
  have HPK := Lib.hid (kpick_any sectors 40 w hsec ⟨by omega, by omega⟩)
  rw [hy] at HPK
  obtain ⟨data, hdata⟩ : ∃ data, y + 2 = data := ⟨_, rfl⟩
  have hd2 : 2 ≤ data := by omega
  have hd41 : data ≤ 41 := by omega
  obtain ⟨n, hn⟩ : ∃ n, data + 2 = n := ⟨_, rfl⟩
  have hn43 : n ≤ 43 := by omega
  have HNN := Lib.hid hn
  have hyn : (4 : Int) + (y : Int) = ((n : Nat) : Int) := by omega
  obtain ⟨gx, hgx⟩ : ∃ gx, w.heap.size = gx := ⟨_, rfl⟩
  obtain ⟨w1, hw1⟩ : ∃ w1, w.alloc (.cells #[.pointer none, .pointer none, .int .i64 ((n : Nat) : Int), .slice none 0 0, .int .i64 0, .bool false, .bool false] 63) = w1 := ⟨_, rfl⟩
  have hb1 : Below w.heap.size w w1 := by rw [← hw1]; exact (Below.refl _ _).alloc (Nat.le_refl _) _
  have BX : Blk w1 gx 63 [.pointer none, .pointer none, .int .i64 ((n : Nat) : Int), .slice none 0 0, .int .i64 0, .bool false, .bool false] := by rw [← hw1, ← hgx]; exact Blk.new w 63 _
  obtain ⟨m, hm⟩ : ∃ m : Int, ((n : Nat) : Int) + 2 = m := ⟨_, rfl⟩
  have HNW := Lib.hid (new_any m w1)
  have hlen : (Pl.Dk.new m).secs.length = data + 4 := by
    unfold Pl.Dk.new Pl.most
    rw [List.length_replicate, if_neg (by omega), if_neg (by omega)]
    omega
  obtain ⟨d', hc, hl', hok, hkok⟩ := Pl.created m data hd2 (by omega) (by omega)
  have hop := hok.opens
  rw [hn] at hc
  have hp1 : placedB (Pl.Dk.new m).secs.length (1 : Nat) ((n : Nat) : Int) 4 = true := by
    unfold placedB
    simp only [Bool.and_eq_true, decide_eq_true_eq]
    omega
  have hp2 : placedB d'.secs.length (1 : Nat) ((n : Nat) : Int) 4 = true := by rw [hl']; exact hp1
  obtain ⟨l0, hl0⟩ : ∃ l0, (⟨1, data, 1, 0, [], false⟩ : Pl.Lg) = l0 := ⟨_, rfl⟩
  have hop0 : Pl.openLog d' 1 n = (d', .inr l0) := by rw [← hl0, ← hn]; exact hop
  have HE0 : Hid (l0.epoch = 1) := by rw [Hid, ← hl0]
  rw [hl0] at hkok
  have HKO := Lib.hid hkok
  have HC0 := Lib.hid hc
  have HO0 := Lib.hid hop0
  have HP1 := Lib.hid hp1
  have HP2 := Lib.hid hp2
  have HG0 := Lib.hid hG
  have HB1 := Lib.hid hb1
  have HBX := Lib.hid BX
  obtain ⟨x0, x1, x2, x3, x4, x5, x6, y0, y1, y2, y3, y4, y5, y6⟩ := facts7 BX
  clear hn hs hy hy39 hc hl' hok hkok hop hp1 hp2 hl0 hop0 hG hb1 BX hlen hdata hsec
  go_enter Tryd.func5, Tryd.ntmps5
  go_wp2_with fail
  refine HPK.out.mono ?_
  rintro e w' ⟨rfl, rfl⟩
  go_wp2_with fail
  refine HNW.out.mono ?_
  rintro e w2 ⟨v, rfl, hd2', hb2, hfar⟩
  obtain ⟨g, hg⟩ : ∃ g, w1.heap.size = g := ⟨_, rfl⟩
  rw [hg] at hd2' hfar
  have hx2 := HBX.out.below hb2 HBX.out.lt
  have hgg : Hid (w.heap.size ≤ g) := by rw [← hg]; exact HB1.out.size
  obtain ⟨w3, hw3⟩ : ∃ w3, w2.setCell ⟨gx, 0, none⟩ (.pointer (some ⟨g, 0, none⟩)) = w3 := ⟨_, rfl⟩
  have hgx2 : w.heap.size ≤ gx := by rw [hgx]; exact Nat.le_refl _
  have hb3 : Below w.heap.size w w3 := by rw [← hw3]; exact (HB1.out.trans (hb2.mono HB1.out.size)).setCell (p := ⟨gx, 0, none⟩) hgx2 _
  have hk3 : KDisk w.heap.size w3 gx g (.pointer none) n v (.slice none 0 0) (Pl.Dk.new m) 0 [] 0 false false := by
    have ho : Only (· = gx) w2 w3 := by rw [← hw3]; exact (Only.refl (· = gx) w2).setCell (p := ⟨gx, 0, none⟩) (.inl rfl) _
    have hk : Kinds (· = gx) w2 [63] := fun x hx => by
      rw [hx]
      exact ⟨_, by simp, hx2.typ⟩
    exact ⟨by rw [← hw3]; exact hx2.set_ 0 _, hd2'.onlyT ho hk (by decide) (by decide), World.ownsRow_nil _ _ _ _, hgx2, fun k hk' => Nat.le_trans hgg.out (hfar k hk')⟩
  have hgf : ¬ dF g v 0 := fun e => by have := hfar _ e; have := hgg.out; omega
  have HCC := Lib.hid (fun W rd h1 h2 => pCreate_yes g v (Pl.Dk.new m) d' rd 1 n 0 W h1 h2 hgf HP1.out HC0.out)
  have HCO := Lib.hid (fun W rd h1 h2 => pOpen_yes g v d' d' rd 1 n l0 W h1 h2 hgf HP2.out HO0.out)
  have HK3 := Lib.hid hk3
  have HB3 := Lib.hid hb3
  obtain ⟨t0, _, _, _, _, _, _, f0, _, _, _, _, _, _⟩ := facts7 hx2
  clear hx2 hb2 hd2' hfar hgf hk3 hb3 x0 x1 x2 x3 x4 x5 x6 y0 y1 y2 y3 y4 y5 y6
  go_upto_region 5 with fail
  clear t0 f0
  have SC : Hid (w3.cell? ⟨gx, 0, none⟩ = some (.pointer (some ⟨g, 0, none⟩)) ∧ w3.cell? ⟨gx, 2, none⟩ = some (.int .i64 ((n : Nat) : Int))) := ⟨HK3.out.blk.cell 0, HK3.out.blk.cell 2⟩
  go_cut [6] from 30 (fun s6 wx => ∃ b, s6 = .pointer (some ⟨b, 0, none⟩) ∧ Hid (Blk wx b 27 [.int .i64 0, .string ⟨#[]⟩, .bool true]) ∧ Hid (KDisk w.heap.size wx gx g (.pointer none) n v (.slice none 0 0) d' 0 [] 0 false false) ∧ Hid (Below w.heap.size w wx))
  case first =>
    refine wp_region_held_drew (S := (fun W : World => W.cell? ⟨gx, 0, none⟩ = some (.pointer (some ⟨g, 0, none⟩)) ∧ W.cell? ⟨gx, 2, none⟩ = some (.int .i64 ((n : Nat) : Int)))) (by kernel_rfl) SC.out (fun hHeld => ?_)
    refine wpAnyH_take (i := 0) (oi := _) (v := ?_) rfl (by kernel_rfl) (by kernel_rfl) (by kernel_rfl) (fun _ _ _ h => h) (Or.inl ⟨by rfl, ?_⟩) (by assumption) ?_
    rotate_left
    · intro W hSw
      (try dsimp only at hSw)
      go_simp
      rfl
    (try simp only [Act.put, List.getElem_toArray, List.getElem_cons_succ, List.getElem_cons_zero, List.setIfInBounds_toArray, List.set_cons_zero, List.set_cons_succ])
    refine wpAnyH_take (i := 1) (oi := _) (v := ?_) rfl (by kernel_rfl) (by kernel_rfl) (by kernel_rfl) (fun _ _ _ h => h) (Or.inl ⟨by rfl, ?_⟩) (by assumption) ?_
    rotate_left
    · intro W hSw
      (try dsimp only at hSw)
      go_simp
      rfl
    (try simp only [Act.put, List.getElem_toArray, List.getElem_cons_succ, List.getElem_cons_zero, List.setIfInBounds_toArray, List.set_cons_zero, List.set_cons_succ])
    refine wpAnyH_take (i := 2) (oi := _) (v := ?_) rfl (by kernel_rfl) (by kernel_rfl) (by kernel_rfl) (fun _ _ _ h => h) (Or.inl ⟨by rfl, ?_⟩) (by assumption) ?_
    rotate_left
    · intro W hSw
      (try dsimp only at hSw)
      go_simp
      rfl
    (try simp only [Act.put, List.getElem_toArray, List.getElem_cons_succ, List.getElem_cons_zero, List.setIfInBounds_toArray, List.set_cons_zero, List.set_cons_succ])
    refine wpAnyH_take (i := 3) (oi := _) (v := ?_) rfl (by kernel_rfl) (by kernel_rfl) (by kernel_rfl) (fun _ _ _ h => h) (Or.inl ⟨by rfl, ?_⟩) (by assumption) ?_
    rotate_left
    · intro W hSw
      (try dsimp only at hSw)
      go_simp
      rfl
    (try simp only [Act.put, List.getElem_toArray, List.getElem_cons_succ, List.getElem_cons_zero, List.setIfInBounds_toArray, List.set_cons_zero, List.set_cons_succ])
    refine wpAnyH_take (i := 4) (oi := _) (v := ?_) rfl (by kernel_rfl) (by kernel_rfl) (by kernel_rfl) (fun _ _ _ h => h) (Or.inl ⟨by rfl, ?_⟩) (by assumption) ?_
    rotate_left
    · intro W hSw
      (try dsimp only at hSw)
      go_simp
      rfl
    (try simp only [Act.put, List.getElem_toArray, List.getElem_cons_succ, List.getElem_cons_zero, List.setIfInBounds_toArray, List.set_cons_zero, List.set_cons_succ])
    refine wpAnyH_take (i := 5) (oi := _) (v := ?_) rfl (by kernel_rfl) (by kernel_rfl) (by kernel_rfl) (fun _ _ _ h => h) (Or.inl ⟨by rfl, ?_⟩) (by assumption) ?_
    rotate_left
    · intro W hSw
      (try dsimp only at hSw)
      go_simp
      rfl
    (try simp only [Act.put, List.getElem_toArray, List.getElem_cons_succ, List.getElem_cons_zero, List.setIfInBounds_toArray, List.set_cons_zero, List.set_cons_succ])
    refine wpAnyH_take (i := 6) (oi := _) (v := ?_) rfl (by kernel_rfl) (by kernel_rfl) (by kernel_rfl) (fun _ _ _ h => h) (Or.inl ⟨by rfl, ?_⟩) (by assumption) ?_
    rotate_left
    · intro W hSw
      (try dsimp only at hSw)
      go_simp
      rfl
    (try simp only [Act.put, List.getElem_toArray, List.getElem_cons_succ, List.getElem_cons_zero, List.setIfInBounds_toArray, List.set_cons_zero, List.set_cons_succ])
    refine wpAnyH_take (i := 7) (oi := _) (v := ?_) rfl (by kernel_rfl) (by kernel_rfl) (by kernel_rfl) (fun _ _ _ h => h) (Or.inl ⟨by rfl, ?_⟩) (by assumption) ?_
    rotate_left
    · intro W hSw
      (try dsimp only at hSw)
      go_simp
      rfl
    (try simp only [Act.put, List.getElem_toArray, List.getElem_cons_succ, List.getElem_cons_zero, List.setIfInBounds_toArray, List.set_cons_zero, List.set_cons_succ])
    refine wpAnyH_ready (rs := [8, 9]) (by kernel_rfl) (by simp) ?_
    refine AllReadyH.cons (o := _) rfl (fun K hK => ?_) ?_
    · go_simp
      refine (HCC.out w3.drew _ (HK3.out.disk.below (Below.refl _ _).drew) ((HG0.out.below' HB3.out hE).below (Below.refl _ _).drew)).mono ?_
      rintro e wo ⟨rfl, hdo, hoo⟩
      have hkd := (HK3.out.below (w' := w3.drew) (Below.refl _ _).drew)
      have HKo := Lib.hid (hkd.disked hdo hoo)
      have HBo : Hid (Below w.heap.size w wo) := HB3.out.trans ((Below.refl w.heap.size w3).drew.trans (only_below hoo hkd.low.2 HB3.out.size))
      have So : Hid (wo.cell? ⟨gx, 0, none⟩ = some (.pointer (some ⟨g, 0, none⟩)) ∧ wo.cell? ⟨gx, 2, none⟩ = some (.int .i64 ((n : Nat) : Int))) := ⟨HKo.out.blk.cell 0, HKo.out.blk.cell 2⟩
      have hso := HBo.out.size
      unfold errA
      clear hdo hoo hkd
      go_wp2_with fail
      refine hK.out _ _ So.out (fun hHeldo => ?_)
      clear hK K
      (try simp only [Act.put, List.getElem_toArray, List.getElem_cons_succ, List.getElem_cons_zero, List.setIfInBounds_toArray, List.set_cons_zero, List.set_cons_succ])
      refine wpAnyH_ready (rs := [9]) (by kernel_rfl) (by simp) ?_
      refine AllReadyH.cons (o := _) rfl (fun K hK => ?_) AllReadyH.nil
      go_simp
      obtain ⟨wp, hwp⟩ : ∃ wp, wo.alloc (.cells #[.int .i64 0, .string ⟨#[]⟩, .bool false] 27) = wp := ⟨_, rfl⟩
      have hbp : Below wo.heap.size wo wp := by rw [← hwp]; exact (Below.refl _ _).alloc (Nat.le_refl _) _
      have Bp : Blk wp wo.heap.size 27 [.int .i64 0, .string ⟨#[]⟩, .bool false] := by rw [← hwp]; exact Blk.new wo 27 _
      have HKp := Lib.hid (HKo.out.below hbp)
      have HBp : Hid (Below w.heap.size w wp) := HBo.out.trans (hbp.mono hso)
      have Sp : Hid (wp.cell? ⟨gx, 0, none⟩ = some (.pointer (some ⟨g, 0, none⟩)) ∧ wp.cell? ⟨gx, 2, none⟩ = some (.int .i64 ((n : Nat) : Int))) := ⟨HKp.out.blk.cell 0, HKp.out.blk.cell 2⟩
      obtain ⟨e0, e1, e2, f0, f1, f2⟩ := facts3 Bp
      have HEp := Lib.hid Bp
      clear hbp Bp
      rw [hwp]
      refine hK.out _ _ Sp.out (fun hHeldp => ?_)
      clear hK K
      (try simp only [Act.put, List.getElem_toArray, List.getElem_cons_succ, List.getElem_cons_zero, List.setIfInBounds_toArray, List.set_cons_zero, List.set_cons_succ])
      refine wpAnyH_ready (rs := [10]) (by kernel_rfl) (by simp) ?_
      refine AllReadyH.cons (o := _) rfl (fun K hK => ?_) AllReadyH.nil
      go_simp
      have HB5 : Hid (Below w.heap.size w (set3 wp wo.heap.size 0)) := ((HBp.out.setCell (p := ⟨wo.heap.size, 0, none⟩) hso _).setCell (p := ⟨wo.heap.size, 1, none⟩) hso _).setCell (p := ⟨wo.heap.size, 2, none⟩) hso _
      have HK5 := Lib.hid (HKp.out.setErr HEp.out 0)
      have HE5 : Hid (Blk (set3 wp wo.heap.size 0) wo.heap.size 27 [.int .i64 0, .string ⟨#[]⟩, .bool true]) := HEp.out.set3 _ _ _
      refine hK.out _ _ ⟨HK5.out.blk.cell 0, HK5.out.blk.cell 2⟩ (fun _ => ?_)
      refine wpAnyH_done (by kernel_rfl) ?_ _
      clear hK K hHeld hHeldo hHeldp
      go_wp2_with fail
      go_meet
      case rel => exact ⟨_, rfl, HE5, HK5, HB5⟩
    · refine AllReadyH.cons (o := _) rfl (fun K hK => ?_) AllReadyH.nil
      go_simp
      obtain ⟨wo, hwo⟩ : ∃ wo, (w3.alloc (.cells #[.int .i64 0, .string ⟨#[]⟩, .bool false] 27)).drew = wo := ⟨_, rfl⟩
      have hbo : Below w3.heap.size w3 wo := by rw [← hwo]; exact Below.drew ((Below.refl _ _).alloc (Nat.le_refl _) _)
      have Bo : Blk wo w3.heap.size 27 [.int .i64 0, .string ⟨#[]⟩, .bool false] := by rw [← hwo]; exact Blk.new w3 27 _
      have HKo := Lib.hid (HK3.out.below hbo)
      have hs3 := HB3.out.size
      have HBo : Hid (Below w.heap.size w wo) := HB3.out.trans (hbo.mono hs3)
      have HEo := Lib.hid Bo
      have So : Hid (wo.cell? ⟨gx, 0, none⟩ = some (.pointer (some ⟨g, 0, none⟩)) ∧ wo.cell? ⟨gx, 2, none⟩ = some (.int .i64 ((n : Nat) : Int))) := ⟨HKo.out.blk.cell 0, HKo.out.blk.cell 2⟩
      rw [hwo]
      clear hbo Bo hwo
      refine hK.out _ _ So.out (fun hHeldo => ?_)
      clear hK K
      (try simp only [Act.put, List.getElem_toArray, List.getElem_cons_succ, List.getElem_cons_zero, List.setIfInBounds_toArray, List.set_cons_zero, List.set_cons_succ])
      refine wpAnyH_ready (rs := [8]) (by kernel_rfl) (by simp) ?_
      refine AllReadyH.cons (o := _) rfl (fun K hK => ?_) AllReadyH.nil
      go_simp
      refine (HCC.out wo _ HKo.out.disk (HG0.out.below' HBo.out hE)).mono ?_
      rintro e wp ⟨rfl, hdo, hoo⟩
      have HKp := Lib.hid (HKo.out.disked hdo hoo)
      have HEp := Lib.hid (hoo.blk_ HKo.out.disk.kinds HEo.out (by decide))
      have HBp : Hid (Below w.heap.size w wp) := HBo.out.trans (only_below hoo HKo.out.low.2 HBo.out.size)
      have Sp : Hid (wp.cell? ⟨gx, 0, none⟩ = some (.pointer (some ⟨g, 0, none⟩)) ∧ wp.cell? ⟨gx, 2, none⟩ = some (.int .i64 ((n : Nat) : Int))) := ⟨HKp.out.blk.cell 0, HKp.out.blk.cell 2⟩
      obtain ⟨e0, e1, e2, f0, f1, f2⟩ := facts3 HEp.out
      unfold errA
      clear hdo hoo
      go_wp2_with fail
      refine hK.out _ _ Sp.out (fun hHeldp => ?_)
      clear hK K
      (try simp only [Act.put, List.getElem_toArray, List.getElem_cons_succ, List.getElem_cons_zero, List.setIfInBounds_toArray, List.set_cons_zero, List.set_cons_succ])
      refine wpAnyH_ready (rs := [10]) (by kernel_rfl) (by simp) ?_
      refine AllReadyH.cons (o := _) rfl (fun K hK => ?_) AllReadyH.nil
      go_simp
      have HB5 : Hid (Below w.heap.size w (set3 wp w3.heap.size 0)) := ((HBp.out.setCell (p := ⟨w3.heap.size, 0, none⟩) hs3 _).setCell (p := ⟨w3.heap.size, 1, none⟩) hs3 _).setCell (p := ⟨w3.heap.size, 2, none⟩) hs3 _
      have HK5 := Lib.hid (HKp.out.setErr HEp.out 0)
      have HE5 : Hid (Blk (set3 wp w3.heap.size 0) w3.heap.size 27 [.int .i64 0, .string ⟨#[]⟩, .bool true]) := HEp.out.set3 _ _ _
      refine hK.out _ _ ⟨HK5.out.blk.cell 0, HK5.out.blk.cell 2⟩ (fun _ => ?_)
      refine wpAnyH_done (by kernel_rfl) ?_ _
      clear hK K hHeld hHeldo hHeldp
      go_wp2_with fail
      go_meet
      case rel => exact ⟨_, rfl, HE5, HK5, HB5⟩
  case rest =>
    obtain ⟨b, rfl, HAC, HKC, HBC⟩ := hcut
    clear SC
    have SC : Hid (wc.cell? ⟨gx, 0, none⟩ = some (.pointer (some ⟨g, 0, none⟩)) ∧ wc.cell? ⟨gx, 2, none⟩ = some (.int .i64 ((n : Nat) : Int))) := ⟨HKC.out.blk.cell 0, HKC.out.blk.cell 2⟩
    go_upto_region 6 with fail
    go_cut [7, 8] from 39 (fun s7 s8 wx => ∃ gl2 b2 va2 vs2 rd2, s7 = .pointer (some ⟨gl2, 0, none⟩) ∧ s8 = .pointer (some ⟨b2, 0, none⟩) ∧ Hid (Blk wx b 27 [.int .i64 0, .string ⟨#[]⟩, .bool true]) ∧ Hid (Blk wx b2 27 [.int .i64 0, .string ⟨#[]⟩, .bool true]) ∧ Hid (KPre w.heap.size wx gx g (.pointer none) gl2 n v va2 (.slice none 0 0) vs2 d' rd2 l0 [] 0 false false) ∧ Hid (Below w.heap.size w wx))
    case first =>
      refine wp_region_held_drew (S := (fun W : World => W.cell? ⟨gx, 0, none⟩ = some (.pointer (some ⟨g, 0, none⟩)) ∧ W.cell? ⟨gx, 2, none⟩ = some (.int .i64 ((n : Nat) : Int)))) (by kernel_rfl) SC.out (fun hHeld => ?_)
      refine wpAnyH_take (i := 0) (oi := _) (v := ?_) rfl (by kernel_rfl) (by kernel_rfl) (by kernel_rfl) (fun _ _ _ h => h) (Or.inl ⟨by rfl, ?_⟩) (by assumption) ?_
      rotate_left
      · intro W hSw
        (try dsimp only at hSw)
        go_simp
        rfl
      (try simp only [Act.put, List.getElem_toArray, List.getElem_cons_succ, List.getElem_cons_zero, List.setIfInBounds_toArray, List.set_cons_zero, List.set_cons_succ])
      refine wpAnyH_take (i := 1) (oi := _) (v := ?_) rfl (by kernel_rfl) (by kernel_rfl) (by kernel_rfl) (fun _ _ _ h => h) (Or.inl ⟨by rfl, ?_⟩) (by assumption) ?_
      rotate_left
      · intro W hSw
        (try dsimp only at hSw)
        go_simp
        rfl
      (try simp only [Act.put, List.getElem_toArray, List.getElem_cons_succ, List.getElem_cons_zero, List.setIfInBounds_toArray, List.set_cons_zero, List.set_cons_succ])
      refine wpAnyH_take (i := 2) (oi := _) (v := ?_) rfl (by kernel_rfl) (by kernel_rfl) (by kernel_rfl) (fun _ _ _ h => h) (Or.inl ⟨by rfl, ?_⟩) (by assumption) ?_
      rotate_left
      · intro W hSw
        (try dsimp only at hSw)
        go_simp
        rfl
      (try simp only [Act.put, List.getElem_toArray, List.getElem_cons_succ, List.getElem_cons_zero, List.setIfInBounds_toArray, List.set_cons_zero, List.set_cons_succ])
      refine wpAnyH_take (i := 3) (oi := _) (v := ?_) rfl (by kernel_rfl) (by kernel_rfl) (by kernel_rfl) (fun _ _ _ h => h) (Or.inl ⟨by rfl, ?_⟩) (by assumption) ?_
      rotate_left
      · intro W hSw
        (try dsimp only at hSw)
        go_simp
        rfl
      (try simp only [Act.put, List.getElem_toArray, List.getElem_cons_succ, List.getElem_cons_zero, List.setIfInBounds_toArray, List.set_cons_zero, List.set_cons_succ])
      refine wpAnyH_take (i := 4) (oi := _) (v := ?_) rfl (by kernel_rfl) (by kernel_rfl) (by kernel_rfl) (fun _ _ _ h => h) (Or.inl ⟨by rfl, ?_⟩) (by assumption) ?_
      rotate_left
      · intro W hSw
        (try dsimp only at hSw)
        go_simp
        rfl
      (try simp only [Act.put, List.getElem_toArray, List.getElem_cons_succ, List.getElem_cons_zero, List.setIfInBounds_toArray, List.set_cons_zero, List.set_cons_succ])
      refine wpAnyH_take (i := 5) (oi := _) (v := ?_) rfl (by kernel_rfl) (by kernel_rfl) (by kernel_rfl) (fun _ _ _ h => h) (Or.inl ⟨by rfl, ?_⟩) (by assumption) ?_
      rotate_left
      · intro W hSw
        (try dsimp only at hSw)
        go_simp
        rfl
      (try simp only [Act.put, List.getElem_toArray, List.getElem_cons_succ, List.getElem_cons_zero, List.setIfInBounds_toArray, List.set_cons_zero, List.set_cons_succ])
      refine wpAnyH_take (i := 6) (oi := _) (v := ?_) rfl (by kernel_rfl) (by kernel_rfl) (by kernel_rfl) (fun _ _ _ h => h) (Or.inl ⟨by rfl, ?_⟩) (by assumption) ?_
      rotate_left
      · intro W hSw
        (try dsimp only at hSw)
        go_simp
        rfl
      (try simp only [Act.put, List.getElem_toArray, List.getElem_cons_succ, List.getElem_cons_zero, List.setIfInBounds_toArray, List.set_cons_zero, List.set_cons_succ])
      refine wpAnyH_take (i := 7) (oi := _) (v := ?_) rfl (by kernel_rfl) (by kernel_rfl) (by kernel_rfl) (fun _ _ _ h => h) (Or.inl ⟨by rfl, ?_⟩) (by assumption) ?_
      rotate_left
      · intro W hSw
        (try dsimp only at hSw)
        go_simp
        rfl
      (try simp only [Act.put, List.getElem_toArray, List.getElem_cons_succ, List.getElem_cons_zero, List.setIfInBounds_toArray, List.set_cons_zero, List.set_cons_succ])
      refine wpAnyH_ready (rs := [8, 12]) (by kernel_rfl) (by simp) ?_
      refine AllReadyH.cons (o := _) rfl (fun K hK => ?_) ?_
      · go_simp
        have hkd := (HKC.out.below (w' := wc.drew) (Below.refl _ _).drew)
        refine (HCO.out wc.drew _ hkd.disk ((HG0.out.below' HBC.out hE).below (Below.refl _ _).drew)).mono ?_
        rintro e wo ⟨o, rfl, hopo⟩
        have hao : Blk wo b 27 [.int .i64 0, .string ⟨#[]⟩, .bool true] := by
          obtain ⟨_, _, _, _, _, _, _, _, hon⟩ := hopo
          exact hon.blk_ hkd.disk.kinds (HAC.out.below (Below.refl _ _).drew HAC.out.lt) (by decide)
        obtain ⟨gl2, va2, vs2, rd2, rfl, hpre, hbo⟩ := hkd.opened hopo HBC.out.size
        have HPo := Lib.hid hpre
        have HAo := Lib.hid hao
        have HBo : Hid (Below w.heap.size w wo) := HBC.out.trans ((Below.refl w.heap.size wc).drew.trans hbo)
        have So : Hid (wo.cell? ⟨gx, 0, none⟩ = some (.pointer (some ⟨g, 0, none⟩)) ∧ wo.cell? ⟨gx, 2, none⟩ = some (.int .i64 ((n : Nat) : Int))) := ⟨HPo.out.blk.cell 0, HPo.out.blk.cell 2⟩
        have hso := HBo.out.size
        unfold errA
        clear hopo hpre hbo hkd hao
        go_wp2_with fail
        refine hK.out _ _ So.out (fun hHeldo => ?_)
        clear hK K
        (try simp only [Act.put, List.getElem_toArray, List.getElem_cons_succ, List.getElem_cons_zero, List.setIfInBounds_toArray, List.set_cons_zero, List.set_cons_succ])
        refine wpAnyH_take (i := 9) (oi := _) (v := ?_) rfl (by kernel_rfl) (by kernel_rfl) (by kernel_rfl) (fun _ _ _ h => h) (Or.inl ⟨by rfl, ?_⟩) (by assumption) ?_
        rotate_left
        · intro W hSw
          (try dsimp only at hSw)
          go_simp
          rfl
        (try simp only [Act.put, List.getElem_toArray, List.getElem_cons_succ, List.getElem_cons_zero, List.setIfInBounds_toArray, List.set_cons_zero, List.set_cons_succ])
        refine wpAnyH_take (i := 10) (oi := _) (v := ?_) rfl (by kernel_rfl) (by kernel_rfl) (by kernel_rfl) (fun _ _ _ h => h) (Or.inl ⟨by rfl, ?_⟩) (by assumption) ?_
        rotate_left
        · intro W hSw
          (try dsimp only at hSw)
          go_simp
          rfl
        (try simp only [Act.put, List.getElem_toArray, List.getElem_cons_succ, List.getElem_cons_zero, List.setIfInBounds_toArray, List.set_cons_zero, List.set_cons_succ])
        refine wpAnyH_take (i := 11) (oi := _) (v := ?_) rfl (by kernel_rfl) (by kernel_rfl) (by kernel_rfl) (fun _ _ _ h => h) (Or.inl ⟨by rfl, ?_⟩) (by assumption) ?_
        rotate_left
        · intro W hSw
          (try dsimp only at hSw)
          go_simp
          rfl
        (try simp only [Act.put, List.getElem_toArray, List.getElem_cons_succ, List.getElem_cons_zero, List.setIfInBounds_toArray, List.set_cons_zero, List.set_cons_succ])
        refine wpAnyH_ready (rs := [12]) (by kernel_rfl) (by simp) ?_
        refine AllReadyH.cons (o := _) rfl (fun K hK => ?_) AllReadyH.nil
        go_simp
        obtain ⟨wp, hwp⟩ : ∃ wp, wo.alloc (.cells #[.int .i64 0, .string ⟨#[]⟩, .bool false] 27) = wp := ⟨_, rfl⟩
        have hbp : Below wo.heap.size wo wp := by rw [← hwp]; exact (Below.refl _ _).alloc (Nat.le_refl _) _
        have Bp : Blk wp wo.heap.size 27 [.int .i64 0, .string ⟨#[]⟩, .bool false] := by rw [← hwp]; exact Blk.new wo 27 _
        have HPp := Lib.hid (HPo.out.below hbp)
        have HAp := Lib.hid (HAo.out.below hbp HAo.out.lt)
        have hne : Hid (b ≠ wo.heap.size) := Nat.ne_of_lt HAo.out.lt
        have HBp : Hid (Below w.heap.size w wp) := HBo.out.trans (hbp.mono hso)
        have Sp : Hid (wp.cell? ⟨gx, 0, none⟩ = some (.pointer (some ⟨g, 0, none⟩)) ∧ wp.cell? ⟨gx, 2, none⟩ = some (.int .i64 ((n : Nat) : Int))) := ⟨HPp.out.blk.cell 0, HPp.out.blk.cell 2⟩
        obtain ⟨e0, e1, e2, f0, f1, f2⟩ := facts3 Bp
        have HEp := Lib.hid Bp
        clear hbp Bp
        rw [hwp]
        refine hK.out _ _ Sp.out (fun hHeldp => ?_)
        clear hK K
        (try simp only [Act.put, List.getElem_toArray, List.getElem_cons_succ, List.getElem_cons_zero, List.setIfInBounds_toArray, List.set_cons_zero, List.set_cons_succ])
        refine wpAnyH_take (i := 13) (oi := _) (v := ?_) rfl (by kernel_rfl) (by kernel_rfl) (by kernel_rfl) (fun _ _ _ h => h) (Or.inl ⟨by rfl, ?_⟩) (by assumption) ?_
        rotate_left
        · intro W hSw
          (try dsimp only at hSw)
          go_simp
          rfl
        (try simp only [Act.put, List.getElem_toArray, List.getElem_cons_succ, List.getElem_cons_zero, List.setIfInBounds_toArray, List.set_cons_zero, List.set_cons_succ])
        refine wpAnyH_ready (rs := [14]) (by kernel_rfl) (by simp) ?_
        refine AllReadyH.cons (o := _) rfl (fun K hK => ?_) AllReadyH.nil
        go_simp
        have HB5 : Hid (Below w.heap.size w (set3 wp wo.heap.size 0)) := ((HBp.out.setCell (p := ⟨wo.heap.size, 0, none⟩) hso _).setCell (p := ⟨wo.heap.size, 1, none⟩) hso _).setCell (p := ⟨wo.heap.size, 2, none⟩) hso _
        have HP5 := Lib.hid (HPp.out.setErr HEp.out 0)
        have HE5 : Hid (Blk (set3 wp wo.heap.size 0) wo.heap.size 27 [.int .i64 0, .string ⟨#[]⟩, .bool true]) := HEp.out.set3 _ _ _
        have HA5 := Lib.hid (HAp.out.offE wo.heap.size 0 hne.out)
        refine hK.out _ _ ⟨HP5.out.blk.cell 0, HP5.out.blk.cell 2⟩ (fun _ => ?_)
        refine wpAnyH_done (by kernel_rfl) ?_ _
        clear hK K hHeld hHeldo hHeldp
        go_wp2_with fail
        go_meet
        case rel => exact ⟨gl2, _, va2, vs2, rd2, rfl, rfl, HA5, HE5, HP5, HB5⟩
      · refine AllReadyH.cons (o := _) rfl (fun K hK => ?_) AllReadyH.nil
        go_simp
        obtain ⟨wo, hwo⟩ : ∃ wo, (wc.alloc (.cells #[.int .i64 0, .string ⟨#[]⟩, .bool false] 27)).drew = wo := ⟨_, rfl⟩
        have hbo : Below wc.heap.size wc wo := by rw [← hwo]; exact Below.drew ((Below.refl _ _).alloc (Nat.le_refl _) _)
        have Bo : Blk wo wc.heap.size 27 [.int .i64 0, .string ⟨#[]⟩, .bool false] := by rw [← hwo]; exact Blk.new wc 27 _
        have HKo := Lib.hid (HKC.out.below hbo)
        have hsc := HBC.out.size
        have HBo : Hid (Below w.heap.size w wo) := HBC.out.trans (hbo.mono hsc)
        have HEo := Lib.hid Bo
        have HAo := Lib.hid (HAC.out.below hbo HAC.out.lt)
        have hne : Hid (b ≠ wc.heap.size) := Nat.ne_of_lt HAC.out.lt
        have hso := HBo.out.size
        have So : Hid (wo.cell? ⟨gx, 0, none⟩ = some (.pointer (some ⟨g, 0, none⟩)) ∧ wo.cell? ⟨gx, 2, none⟩ = some (.int .i64 ((n : Nat) : Int))) := ⟨HKo.out.blk.cell 0, HKo.out.blk.cell 2⟩
        rw [hwo]
        clear hbo Bo hwo
        refine hK.out _ _ So.out (fun hHeldo => ?_)
        clear hK K
        (try simp only [Act.put, List.getElem_toArray, List.getElem_cons_succ, List.getElem_cons_zero, List.setIfInBounds_toArray, List.set_cons_zero, List.set_cons_succ])
        refine wpAnyH_ready (rs := [8]) (by kernel_rfl) (by simp) ?_
        refine AllReadyH.cons (o := _) rfl (fun K hK => ?_) AllReadyH.nil
        go_simp
        refine (HCO.out wo _ HKo.out.disk (HG0.out.below' HBo.out hE)).mono ?_
        rintro e wp ⟨o, rfl, hopo⟩
        have hep : Blk wp wc.heap.size 27 [.int .i64 0, .string ⟨#[]⟩, .bool false] ∧ Blk wp b 27 [.int .i64 0, .string ⟨#[]⟩, .bool true] := by
          obtain ⟨_, _, _, _, _, _, _, _, hon⟩ := hopo
          exact ⟨hon.blk_ HKo.out.disk.kinds HEo.out (by decide), hon.blk_ HKo.out.disk.kinds HAo.out (by decide)⟩
        obtain ⟨gl2, va2, vs2, rd2, rfl, hpre, hbp⟩ := HKo.out.opened hopo hso
        have HEp := Lib.hid hep.1
        have HAp := Lib.hid hep.2
        have HPp := Lib.hid hpre
        have HBp : Hid (Below w.heap.size w wp) := HBo.out.trans hbp
        have Sp : Hid (wp.cell? ⟨gx, 0, none⟩ = some (.pointer (some ⟨g, 0, none⟩)) ∧ wp.cell? ⟨gx, 2, none⟩ = some (.int .i64 ((n : Nat) : Int))) := ⟨HPp.out.blk.cell 0, HPp.out.blk.cell 2⟩
        obtain ⟨e0, e1, e2, f0, f1, f2⟩ := facts3 HEp.out
        unfold errA
        clear hopo hep hpre hbp
        go_wp2_with fail
        refine hK.out _ _ Sp.out (fun hHeldp => ?_)
        clear hK K
        (try simp only [Act.put, List.getElem_toArray, List.getElem_cons_succ, List.getElem_cons_zero, List.setIfInBounds_toArray, List.set_cons_zero, List.set_cons_succ])
        refine wpAnyH_take (i := 9) (oi := _) (v := ?_) rfl (by kernel_rfl) (by kernel_rfl) (by kernel_rfl) (fun _ _ _ h => h) (Or.inl ⟨by rfl, ?_⟩) (by assumption) ?_
        rotate_left
        · intro W hSw
          (try dsimp only at hSw)
          go_simp
          rfl
        (try simp only [Act.put, List.getElem_toArray, List.getElem_cons_succ, List.getElem_cons_zero, List.setIfInBounds_toArray, List.set_cons_zero, List.set_cons_succ])
        refine wpAnyH_take (i := 10) (oi := _) (v := ?_) rfl (by kernel_rfl) (by kernel_rfl) (by kernel_rfl) (fun _ _ _ h => h) (Or.inl ⟨by rfl, ?_⟩) (by assumption) ?_
        rotate_left
        · intro W hSw
          (try dsimp only at hSw)
          go_simp
          rfl
        (try simp only [Act.put, List.getElem_toArray, List.getElem_cons_succ, List.getElem_cons_zero, List.setIfInBounds_toArray, List.set_cons_zero, List.set_cons_succ])
        refine wpAnyH_take (i := 11) (oi := _) (v := ?_) rfl (by kernel_rfl) (by kernel_rfl) (by kernel_rfl) (fun _ _ _ h => h) (Or.inl ⟨by rfl, ?_⟩) (by assumption) ?_
        rotate_left
        · intro W hSw
          (try dsimp only at hSw)
          go_simp
          rfl
        (try simp only [Act.put, List.getElem_toArray, List.getElem_cons_succ, List.getElem_cons_zero, List.setIfInBounds_toArray, List.set_cons_zero, List.set_cons_succ])
        refine wpAnyH_take (i := 13) (oi := _) (v := ?_) rfl (by kernel_rfl) (by kernel_rfl) (by kernel_rfl) (fun _ _ _ h => h) (Or.inl ⟨by rfl, ?_⟩) (by assumption) ?_
        rotate_left
        · intro W hSw
          (try dsimp only at hSw)
          go_simp
          rfl
        (try simp only [Act.put, List.getElem_toArray, List.getElem_cons_succ, List.getElem_cons_zero, List.setIfInBounds_toArray, List.set_cons_zero, List.set_cons_succ])
        refine wpAnyH_ready (rs := [14]) (by kernel_rfl) (by simp) ?_
        refine AllReadyH.cons (o := _) rfl (fun K hK => ?_) AllReadyH.nil
        go_simp
        have HB5 : Hid (Below w.heap.size w (set3 wp wc.heap.size 0)) := ((HBp.out.setCell (p := ⟨wc.heap.size, 0, none⟩) hsc _).setCell (p := ⟨wc.heap.size, 1, none⟩) hsc _).setCell (p := ⟨wc.heap.size, 2, none⟩) hsc _
        have HP5 := Lib.hid (HPp.out.setErr HEp.out 0)
        have HE5 : Hid (Blk (set3 wp wc.heap.size 0) wc.heap.size 27 [.int .i64 0, .string ⟨#[]⟩, .bool true]) := HEp.out.set3 _ _ _
        have HA5 := Lib.hid (HAp.out.offE wc.heap.size 0 hne.out)
        refine hK.out _ _ ⟨HP5.out.blk.cell 0, HP5.out.blk.cell 2⟩ (fun _ => ?_)
        refine wpAnyH_done (by kernel_rfl) ?_ _
        clear hK K hHeld hHeldo hHeldp
        go_wp2_with fail
        go_meet
        case rel => exact ⟨gl2, _, va2, vs2, rd2, rfl, rfl, HA5, HE5, HP5, HB5⟩
    case rest =>
      obtain ⟨gl2, b2, va2, vs2, rd2, rfl, rfl, HAD, HED, HPD, HBD⟩ := hcut
      obtain ⟨z0, z1, z2, _, _, _⟩ := facts3 HAD.out
      have q3 := fine_any 0 wc
      unfold errA at q3
      have Q3 := Lib.hid q3
      clear q3
      go_wp2_with fail
      refine Q3.out.mono ?_
      rintro e w6 ⟨rfl, hb6⟩
      have HP6 := Lib.hid (HPD.out.below hb6)
      have HE6 := Lib.hid (HED.out.below hb6 HED.out.lt)
      have HB6 : Hid (Below w.heap.size w w6) := HBD.out.trans (hb6.mono HBD.out.size)
      clear hb6 z0 z1 z2
      obtain ⟨z0, z1, z2, _, _, _⟩ := facts3 HE6.out
      have q4 := fine_any 0 w6
      unfold errA at q4
      have Q4 := Lib.hid q4
      clear q4
      go_wp2_with fail
      refine Q4.out.mono ?_
      rintro e w7 ⟨rfl, hb7⟩
      have HP7 := Lib.hid (HP6.out.below hb7)
      have HB7 : Hid (Below w.heap.size w w7) := HB6.out.trans (hb7.mono HB6.out.size)
      clear hb7 z0 z1 z2
      obtain ⟨x0, x1, x2, x3, x4, x5, x6, y0, y1, y2, y3, y4, y5, y6⟩ := facts7 HP7.out.blk
      obtain ⟨w8, hw8⟩ : ∃ w8, w7.setCell ⟨gx, 1, none⟩ (.pointer (some ⟨gl2, 0, none⟩)) = w8 := ⟨_, rfl⟩
      have HKL : Hid (KLog w.heap.size w8 gx data 0) := by
        rw [← hw8]
        exact ⟨g, gl2, v, va2, _, vs2, d', rd2, l0, [], 0, false, false, by rw [HNN.out]; exact HP7.out.taken, HKO.out, by rw [HE0.out]; exact Nat.le_refl _⟩
      have HB8 : Hid (Below w.heap.size w w8) := by rw [← hw8]; exact HB7.out.setCell (p := ⟨gx, 1, none⟩) HP7.out.low.1 _
      go_wp2_with fail
      clear x0 x1 x2 x3 x4 x5 x6 y0 y1 y2 y3 y4 y5 y6 hw8
      go_loopw [11] (fun i W => ∃ (k : Nat), k ≤ s.size ∧ i = .int .i64 (k : Int) ∧ Hid (KLog w.heap.size W gx data k) ∧ Hid (Below w.heap.size w W)) (fun i _ => s.size - (intOf i).toNat)
      case atStart => exact ⟨0, Nat.zero_le _, rfl, HKL, HB8⟩
      case round =>
        obtain ⟨k, hk, rfl, HKR, HBR⟩ := hrel
        have hs4 := HS.out
        by_cases hkn : k < s.size
        · have q1 : ((k : Nat) : Int) < ((s.size : Nat) : Int) := by omega
          have HACT := Lib.hid (act_any w.heap.size gx data k k s wr hkn hs4 HKR.out hd2 (HG0.out.below' HBR.out hE) hE HBR.out.size (by omega))
          clear hs4
          go_wp2_with fail
          refine HACT.out.mono ?_
          rintro e w9 ⟨rfl, hkl9, hb9⟩
          have HK9 := Lib.hid hkl9
          have HB9 : Hid (Below w.heap.size w w9) := HBR.out.trans hb9
          clear hkl9 hb9
          go_wp2_with fail
          exact ⟨⟨k + 1, by omega, by go_num, HK9, HB9⟩, by simp [intOf]; omega⟩
        · obtain rfl : k = s.size := by omega
          have HOPN := Lib.hid (opens_any w.heap.size gx data s.size none 0 0 [] wr HKR.out ⟨World.ownsRow_nil _ _ _ _, (fun c hc => by cases hc), by simp⟩ (by omega) hd2 (HG0.out.below' HBR.out hE) hE HBR.out.size (by omega))
          clear hs4
          go_wp2_with fail
          refine HOPN.out.mono ?_
          rintro e w9 ⟨rfl, _, hb9⟩
          have HB9 : Hid (Below w.heap.size w w9) := HBR.out.trans hb9
          clear hb9
          go_wp2_with fail
          go_ret
          exact ⟨rfl, HB9.out⟩
end Go.Proofs.YtljmklohgpaopaaDoor

namespace Go.Proofs.YtljmklohgpaopaaDoor
open Go.ChangeShapes Go.WideShapes Go.ChangeAt Go.RowKit
open Go.ChangeMaps (open_string)
set_option linter.unusedVariables false

set_option maxRecDepth 100000 in
theorem logged_contract (H : Type) (enc : TypeId × Value → H) (W : World) (base : Nat) (args : Array Value) (ds gs : List (DataW H)) (before : List MemPlace)
    (hval : ∀ (j : Nat) t v, Tryd.f5.params[j]? = some t → args[j]? = some v → Value.okWide Tryd.prog W .any base t v)
    (hW : DataW.Whole enc Tryd.prog Tryd.f5.params.toList Rows.loggedSpec.vars false W args.toList ds gs before)
    (hsz : (DataW.weightsEach Tryd.prog (Tryd.f5.params.toList ++ (OpenSpec.ofChange Rows.loggedSpec).bare.plain.varTypes Tryd.prog) (ds ++ gs)).all (· ≤ reachBytes) = true) (hG : GE W) :
    Calls Tryd.prog 5 args W fun e W' => ∃ v, e = .returned v ∧ Rows.loggedSpec.post enc Tryd.prog Tryd.f5 false true false false W args v W' := by
  have hW' := hW
  obtain ⟨p, q, hA0, hV, rfl, hfz, hnd⟩ := hW
  have hA : DataW.TrodAll enc Tryd.prog W 0 (fun _ => true) true Tryd.f5.params.toList args.toList ds p := hA0
  have hlt : ∀ x ∈ p, x.block < W.heap.size := fun x hx => hW'.lt x (by simp [hx])
  have hrd : ∀ t ∈ Tryd.f5.params.toList, Tryd.prog.readableRec t = true ∧ t < Tryd.prog.types.size := by
    rw [Tryd.params5]
    intro t ht
    simp only [List.mem_cons, List.not_mem_nil, or_false] at ht
    rcases ht with rfl | rfl <;> exact ⟨by kernel_rfl, of_decide_eq_true (by kernel_rfl)⟩
  have hstay := fun W' (hb : Below W.heap.size W W') => args_stay (H := H) (enc := enc) laidOut hb _ _ _ _ hrd hA hlt
  rw [Tryd.params5] at hA hval hsz
  obtain ⟨v0, vs0, d0, ds0, p0, q0, hargs, rfl, rfl, h0, hA1⟩ := trodAll_cons hA
  obtain ⟨v1, vs1, d1, ds1, p1, q1, rfl, rfl, rfl, h1, hA2⟩ := trodAll_cons hA1
  obtain ⟨rfl, rfl, rfl⟩ := trodAll_nil hA2
  obtain ⟨rfl, rfl⟩ := trodVars_none hV
  obtain rfl : args = #[v0, v1] := by cases args; simp_all
  obtain ⟨n0, rfl, rfl, rfl, wn0⟩ := open_int Tryd.underlying3 (hval 0 3 v0 rfl rfl) h0
  obtain ⟨s1, rfl, rfl, rfl, hs1⟩ := open_string Tryd.underlying9 (hval 1 9 v1 rfl rfl) h1
  have hn0 : -9223372036854775808 ≤ n0 ∧ n0 ≤ 9223372036854775807 := by
    simp only [Lit.wf, IntKind.min, IntKind.max, IntKind.signed, IntKind.bits, Bool.and_eq_true, decide_eq_true_eq, if_true] at wn0
    omega
  refine (logged_any n0 s1 W hG hn0).mono fun e W' ⟨he, bel⟩ => ?_
  subst he
  exact ⟨_, rfl, _, _, _, [], _, [], hW', trodAll_mk1 (shut_bool Tryd.underlying4 _), hstay W' bel, rfl, bel.frame _, fun h => by cases h⟩

theorem logged_reads (os : Os) {H : Type} (enc : TypeId × Value → H) : ∃ ds places, DataW.whole enc Tryd.prog ((laidWorld os).forCall (fun _ _ => 0) ⟨#[], #[.int .i64 0, .string ⟨#[]⟩], []⟩).memory Tryd.f5.params.toList Rows.loggedSpec.vars false (#[.int .i64 0, .string ⟨#[]⟩] : Array Value).toList 8 = some (ds, [], places) :=
  ⟨[.lit (.int .i64 0), .lit (.string [])], [], by kernel_rfl⟩

set_option maxRecDepth 100000 in
theorem logged_lifted (os : Os) (started : os.Started) (H : Type) (enc : TypeId × Value → H) (F : Stop.Interp) :
    ReturnsInHanded {} Tryd.checked os 5 .any ((OpenSpec.ofChange Rows.loggedSpec).preRow enc Tryd.prog Tryd.f5 Rows.loggedRow.domain false Rows.loggedRow.laid) (((OpenSpec.ofChange Rows.loggedSpec).at F).post enc Tryd.prog Tryd.f5 false true false false) := by
  obtain ⟨ds, places, hx⟩ := logged_reads os enc
  refine returnsInHanded_of_row (C := Tryd.checked) (s := OpenSpec.ofChange Rows.loggedSpec) own started (by kernel_rfl) Tryd.func5
    (witness_row_at (enc := enc) (C := Tryd.checked) false (laidWorld os) #[.int .i64 0, .string ⟨#[]⟩] rfl (by kernel_rfl) (by kernel_rfl) (by kernel_rfl)
      (OpenSpec.preRow_of_cond 8 hx (by kernel_rfl) (fun k hk => by cases hk) (by kernel_rfl) (laidWorld_met os _))) ?_
  intro W base args ds gs before hval hW _ _ hsz hL _ _
  exact logged_contract H enc W base args ds gs before hval hW hsz (ge_of_laid hL)

theorem logged_said : Rows.LoggedSaid :=
  OpenClaim.holds_of_cond 5 Tryd.f5 rfl rfl rfl rfl rfl rfl rfl ⟨rfl, rfl, rfl, rfl, rfl⟩ rfl rfl rfl rfl rfl (by kernel_rfl) Tryd.func5 (by kernel_rfl)
    (of_decide_eq_true (by kernel_rfl)) (by unfold Func.isWrapper; first | (rw [if_pos (by decide +kernel)]; kernel_rfl) | (rw [if_neg (by decide +kernel)]; exact ⟨rfl, rfl⟩))
    (fun os started H enc _ F => by rw [OpenClaim.pre_eq_preRow]; exact logged_lifted os started H enc F)

theorem logged_plain (f : FuncId) (fn : Func) (hf : Tryd.pinned.checked.prog.funcNamed "daybook/daybookkeep.Logged" = some f) (hfn : Tryd.pinned.checked.prog.funcs[f]? = some fn) :
    true = Tryd.pinned.checked.prog.looks [] ∧ ∀ (j : Nat) t, fn.params[j]? = some t → Tryd.pinned.checked.prog.wantsStandIn t = false := by
  obtain rfl : f = 5 := Option.some.inj ((show Tryd.prog.funcNamed "daybook/daybookkeep.Logged" = some 5 by kernel_rfl).symm.trans hf) |>.symm
  obtain rfl : fn = Tryd.f5 := (Option.some.inj (Tryd.func5.symm.trans hfn)).symm
  refine ⟨by kernel_rfl, fun j t ht => ?_⟩
  rw [Tryd.params5] at ht
  have hall : ∀ t ∈ ([3, 9] : List TypeId), Tryd.pinned.checked.prog.wantsStandIn t = false := by
    intro t ht
    simp only [List.mem_cons, List.not_mem_nil, or_false] at ht
    rcases ht with rfl | rfl <;> kernel_rfl
  exact hall t (by simpa using Array.mem_of_getElem? ht)

theorem logged_card : Rows.LoggedCardSaid :=
  Claim7.holds_tied_plain_at .later [] _ _ _ _ logged_said (fun _ h => by cases h) (by kernel_rfl) (fun _ h => by cases h) logged_row_tie rfl ⟨rfl, rfl⟩ (by kernel_rfl) rfl logged_plain (by kernel_rfl)
#print axioms logged_card
end Go.Proofs.YtljmklohgpaopaaDoor
