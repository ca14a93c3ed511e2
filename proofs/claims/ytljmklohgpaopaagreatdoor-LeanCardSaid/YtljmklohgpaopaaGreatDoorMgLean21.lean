/- A tree: Get. A tree: Get. A tree: its disk is written. Plain: how many sectors are used, how many are free. A tree: the sectors that are used; the next that is free. -/
import Derived.Test.YtljmklohgpaopaaGreatDoorMgLean20
import Derived.Test.YtljmklohgpaopaaGreatDoorMgLean8
import Derived.Maps.OwnOps
import Derived.Maps.OwnSet
import Derived.Maps.Views
set_option linter.unusedVariables false
set_option linter.unusedSimpArgs false

namespace Go.Proofs.YtljmklohgpaopaaGreatDoor
open Go.RowKit
set_option linter.unusedSectionVars false
variable [Inhabited LoT]

/-- How Get's inner function ends. -/
def GtPost (E : TEnv) (n : Nat) (rd : Int) (G : Gh) (key : Pl.Key) (ps : List Pl.Pr) (go : Nat) (w0 w : World) (e : Ending) (w' : World) : Prop :=
  TFt E.gT w0 w' ∧ (∀ b cs, Blk w b 83 cs → Blk w' b 83 cs) ∧ ((∃ G' rd' A cap l, e = .returned (.tuple #[]) ∧ Pl.getL key ps = some l ∧ TW E w' rd' G' ∧ Ext G G' ∧ RdK n rd rd' ∧ Blk w' go 25 [.slice A l.length cap] ∧ BytesAt w' A l ∧ ∀ q, A = some q → Typ w' q.block 5)
  ∨ (E.d.life = 0 ∧ e = tdied 3 ∧ (∃ rd', DiskAt w' E.m.g E.vD E.d rd') ∧ TmAt w' E.gT E.m ∧ Blk w' go 25 [.slice none 0 0])
  ∨ (Pl.getL key ps = none ∧ e = tdied 8 ∧ Blk w' go 25 [.slice none 0 0] ∧ ∃ G' rd', TW E w' rd' G' ∧ Ext G G' ∧ RdK n rd rd'))
theorem getL_some {k : Pl.Key} {ps : List Pl.Pr} (h : Pl.hasL k ps = true) : ∃ p, ps[Pl.placeOf ps k]? = some p ∧ Pl.getL k ps = some p.val := by
  unfold Pl.hasL at h
  unfold Pl.getL
  cases hp : ps[Pl.placeOf ps k]? with
  | none => rw [hp] at h; cases h
  | some p =>
    rw [hp] at h
    have hk : p.key = k := by simpa using h
    exact ⟨p, rfl, by simp [hk]⟩
theorem getL_none {k : Pl.Key} {ps : List Pl.Pr} (h : Pl.hasL k ps = false) : Pl.getL k ps = none := by
  have := Pl.hasL_get k ps
  rw [h] at this
  cases hg : Pl.getL k ps with
  | none => rfl
  | some l => rw [hg] at this; cases this
theorem byt_only {F : Nat → Prop} {w w' : World} {g : Nat} {l : List UInt8} (h : BytesAt w (some ⟨g, 0, none⟩) l) (ho : Only F w w') (hg : ¬ F g) : BytesAt w' (some ⟨g, 0, none⟩) l := by
  rcases h with h | ⟨b, off, e, h⟩
  · exact .inl h
  · injection e with e
    injection e with e1 e2
    subst e1
    exact .inr ⟨_, off, by rw [e2], fun i hi => ho.cell (h i hi) hg⟩
set_option maxRecDepth 100000 in
set_option maxHeartbeats 8000000 in
theorem get1_any (E : TEnv) (gt gk go : Nat) (key : Pl.Key) (hn : E.m.n ≤ 4096) (h : Nat) (t : Pl.Tr h) (w0 w : World) (rd : Int) (G : Gh) (hw : TW E w rd G) (hG : G E.m.root = some ⟨h, t⟩) (hok : Pl.RootOk ⟨h, t⟩) (hh : h ≤ 62) (hev : EvAt w)
    (ht : Blk w gt 45 [.pointer (some ⟨E.gT, 0, none⟩)]) (hk : Blk w gk 9 [.string (tstr key)]) (ho : Blk w go 25 [.slice none 0 0]) (h0 : TFt E.gT w0 w) (hT0 : Typ w0 E.gT 158) (hgo : w0.heap.size ≤ go) :
    Calls Tryz.prog 94 #[.pointer (some ⟨gt, 0, none⟩), .pointer (some ⟨gk, 0, none⟩), .pointer (some ⟨go, 0, none⟩)] w (GtPost E (h + 1) rd G key (Pl.leafOf h t key) go w0 w) := by
  have hin : Pl.InS [] none key := ⟨Pl.knil key, fun y hy => by cases hy⟩
  obtain ⟨hrf, hsp⟩ := hok
  obtain ⟨root, hroot⟩ : ∃ x, E.m.root = x := ⟨_, rfl⟩
  have c3 : w.cell? ⟨E.gT, 3, none⟩ = some (.pointer (some ⟨root, 0, none⟩)) := hroot ▸ hw.tree.cell 3
  rw [hroot] at hG
  obtain ⟨v0, v1, v2⟩ := hev
  have c0 : w.cell? ⟨gt, 0, none⟩ = some (.pointer (some ⟨E.gT, 0, none⟩)) := ht.cell 0
  have hbz := (Below.refl w.heap.size w).alloc (Nat.le_refl _) (.cells #[.string ⟨#[]⟩, .string ⟨#[]⟩, .bool false] 178)
  have z0 := (hbz.cell (World.block_lt_of_cell? _ _ v0)).trans v0
  have z1 := (hbz.cell (World.block_lt_of_cell? _ _ v1)).trans v1
  have z2 := (hbz.cell (World.block_lt_of_cell? _ _ v2)).trans v2
  have z3 := (hbz.cell (World.block_lt_of_cell? _ _ c3)).trans c3
  have z4 := (hbz.cell (World.block_lt_of_cell? _ _ c0)).trans c0
  obtain ⟨LF, hLF⟩ : ∃ x, Pl.leafOf h t key = x := ⟨_, rfl⟩
  rw [hLF]
  have HLF := Lib.hid hLF
  have HG0 := Lib.hid hG
  have HW := Lib.hid hw
  have HRF := Lib.hid hrf
  have HSP := Lib.hid hsp
  have HIN := Lib.hid hin
  have BT := Lib.hid ht
  have BK := Lib.hid hk
  have BO := Lib.hid ho
  have H0 := Lib.hid h0
  have HGO := Lib.hid hgo
  have H0typ : Hid (Typ w0 E.gT 158) := hT0
  obtain ⟨gs, hgs⟩ : ∃ g, w.heap.size = g := ⟨_, rfl⟩
  obtain ⟨w1, hw1⟩ : ∃ x, (w.alloc (.cells #[.string (tstr []), .string (tstr []), .bool true] 178)).drew = x := ⟨_, rfl⟩
  have hb1 : Below w.heap.size w w1 := by rw [← hw1]; exact ((Below.refl _ _).alloc (Nat.le_refl _) _).drew
  have BS1 : Hid (Blk w1 gs 178 (spanC [] none)) := by rw [Hid, ← hw1, ← hgs]; exact Blk.new w 178 _
  have HB1 := Lib.hid hb1
  have HW1E := Lib.hid hw1
  have hmL1 : ∀ (b : Nat) (W : World), (Instr.typeAssert (.iface 161 (.pointer (some ⟨b, 0, none⟩))) 166 161 true).run Tryz.prog W = .ok (.tuple #[.pointer (some ⟨b, 0, none⟩), .bool true]) W := fun b W => by kernel_rfl
  have hmI1 : ∀ (b : Nat) (W : World), (Instr.typeAssert (.iface 180 (.pointer (some ⟨b, 0, none⟩))) 166 161 true).run Tryz.prog W = .ok (.tuple #[.pointer none, .bool false]) W := fun b W => by kernel_rfl
  have hmI2 : ∀ (b : Nat) (W : World), (Instr.typeAssert (.iface 180 (.pointer (some ⟨b, 0, none⟩))) 166 180 true).run Tryz.prog W = .ok (.tuple #[.pointer (some ⟨b, 0, none⟩), .bool true]) W := fun b W => by kernel_rfl
  clear hT0 hbz hw hG hrf hsp hin ht hk ho h0 hgo hb1 hLF hroot hw1
  go_enter Tryz.func94, Tryz.ntmps94
  go_upto_region 0 with fail
  go_cut [3, 4] from 11 (fun s3 s4 wx => s3 = .pointer (some ⟨root, 0, none⟩) ∧ s4 = .pointer (some ⟨gs, 0, none⟩) ∧ w1 = wx)
  case first =>
    go_region
    all_goals
      go_wp2_with fail
      go_meet
      case rel => exact ⟨rfl, rfl, HW1E.out.symm⟩
  case rest =>
    obtain ⟨rfl, rfl, rfl⟩ := hcut
    clear c0 c3 v0 v1 v2 z0 z1 z2 z3 z4
    have HGS : Hid (w.heap.size ≤ gs) := Nat.le_of_eq hgs
    clear hgs
    go_wp2_with fail
    go_loopw [3, 5] (fun r i wr => ∃ (j hc : Nat) (tc : Pl.Tr hc) (lo : Pl.Key) (hi : Option Pl.Key) (rr : Nat) (G1 : Gh) (rd1 : Int), hc + j = h ∧ r = .pointer (some ⟨rr, 0, none⟩) ∧ i = .int .i64 (j : Int) ∧ Hid (Blk wr gs 178 (spanC lo hi)) ∧ Hid (TW E wr rd1 G1) ∧ Hid (Ext G G1) ∧ Hid (TFr w wr) ∧ Hid (RdK j rd rd1) ∧ Hid (G1 rr = some ⟨hc, tc⟩) ∧ Hid (Pl.PFit (decide (j = 0)) hc tc) ∧ Hid (Pl.Spn hc lo hi tc) ∧ Hid (Pl.InS lo hi key) ∧ Hid (Pl.leafOf hc tc key = LF)) (fun _ i _ => h + 1 - (intOf i).toNat)
    case atStart => exact ⟨0, h, t, [], none, root, G, rd, by omega, rfl, rfl, BS1.out, HW.out.below HB1.out, Ext.refl G, TFr.of_below HB1.out, RdK.refl 0 rd, HG0.out, HRF.out, HSP.out, HIN.out, HLF.out⟩
    case round =>
      obtain ⟨j, hc, tc, lo, hi, rr, G1, rd1, hjh, rfl, rfl, HS, HWr, HEr, HTr, HRr, HG1, HPF, HSPN, HINS, HLFr⟩ := hrel
      have HPG := Lib.hid (page_any E rr hc j tc lo hi wr rd1 G1 HWr.out HG1.out HPF.out HSPN.out (by omega) hn)
      obtain ⟨sl, hsl⟩ : ∃ s, tstr lo = s := ⟨_, rfl⟩
      obtain ⟨sh, hsh⟩ : ∃ s, tstr (hi.getD []) = s := ⟨_, rfl⟩
      obtain ⟨bn, hbn⟩ : ∃ b, hi.isNone = b := ⟨_, rfl⟩
      have es : spanV lo hi = .agg #[.string sl, .string sh, .bool bn] := by unfold spanV; rw [hsl, hsh, hbn]
      have es' : spanC lo hi = [.string sl, .string sh, .bool bn] := by unfold spanC; rw [hsl, hsh, hbn]
      rw [es] at HPG
      rw [es'] at HS
      have ES := Lib.hid es
      unfold refV at HPG
      have d0 : wr.cell? ⟨gt, 0, none⟩ = some (.pointer (some ⟨E.gT, 0, none⟩)) := (HTr.out.blk BT.out (by decide) (by decide)).cell 0
      obtain ⟨e0, e1, e2, _, _, _⟩ := facts3' HS.out
      clear es es' hsl hsh hbn
      go_wp2_with fail
      refine HPG.out.mono ?_
      rintro e w2 h2
      rcases h2 with ⟨v2, G2, rd2, rfl, hW2, hE2, hT2, hR2, hP2, a2, hA2⟩ | ⟨hal, rfl, ⟨rd5, hd5⟩, hT5⟩
      rotate_left
      · have HAL := Lib.hid hal
        have HD5 := Lib.hid hd5
        have HT5 := Lib.hid (HTr.out.trans hT5)
        clear hal hd5 hT5
        unfold tdied
        go_wp2_with fail
        exact ⟨rfl, H0.out.trans HT5.out.tft, (fun b cs hb => HT5.out.blk hb (by decide) (by decide)), .inr (.inl ⟨HAL.out, rfl, ⟨rd5, HD5.out⟩, HT5.out.blk HW.out.tree (by decide) (by decide), HT5.out.blk BO.out (by decide) (by decide)⟩)⟩
      have HW2 := Lib.hid hW2
      have HE2 := Lib.hid (HEr.out.trans hE2)
      have HT2 : Hid (TFr w w2) := HTr.out.trans hT2
      have HR2 := Lib.hid (HRr.out.trans hR2 (Nat.le_refl _))
      have HS2 := Lib.hid (hT2.blk HS.out (by decide) (by decide))
      have d1 : w2.cell? ⟨gk, 0, none⟩ = some (.string (tstr key)) := (HT2.out.blk BK.out (by decide) (by decide)).cell 0
      clear hW2 hE2 hT2 hR2 hA2 e0 e1 e2 d0
      cases hc with
      | zero =>
        obtain ⟨b, rfl, hlf⟩ := hP2
        have hLt : tc = LF := HLFr.out
        subst hLt
        have HPL := Lib.hid (place_any b tc key w2 hlf HSPN.out.1 (by have := len_le_lsz tc; have h9 := Pl.PFit.root HPF.out; have := h9.1; omega))
        have HLFA := Lib.hid hlf
        clear hlf
        unfold leafV
        go_wp2_with fail
        refine HPL.out.mono ?_
        rintro e w3 ⟨rfl, hb3⟩
        have HW3 := Lib.hid (HW2.out.below hb3)
        have HT3 := Lib.hid (HT2.out.below hb3)
        have hl3 := HLFA.out.below hb3
        have BO3 := Lib.hid (HT3.out.blk BO.out (by decide) (by decide))
        obtain ⟨Bh, hBh⟩ : ∃ x, Pl.hasL key tc = x := ⟨_, rfl⟩
        rw [hBh]
        cases Bh
        · have HGN := Lib.hid (getL_none hBh)
          clear hb3 hl3 hBh
          go_wp2_with fail
          refine (tfail_any 8 _).mono ?_
          rintro e w' ⟨rfl, rfl⟩
          unfold tdied
          go_wp2_with fail
          exact ⟨rfl, H0.out.trans HT3.out.tft, (fun b cs hb => HT3.out.blk hb (by decide) (by decide)), .inr (.inr ⟨HGN.out, rfl, BO3.out, G2, rd2, HW3.out, HE2.out, HR2.out.mono (by omega)⟩)⟩
        · obtain ⟨p, hp, hg⟩ := getL_some hBh
          obtain ⟨A, ca, hbl, hca, hs3⟩ := hl3
          have at_ := flat_at (f := prCells) (s := 2) (fun _ => rfl) tc (Pl.placeOf tc key) p hp
          obtain ⟨b2, off, rfl, g0⟩ := hs3.1.at_ _ _ (at_ 1 (by omega))
          obtain ⟨f0, _⟩ := facts1 hbl
          have hlt := Pl.hasL_lt hBh
          obtain ⟨i, hi'⟩ : ∃ x, Pl.placeOf tc key = x := ⟨_, rfl⟩
          obtain ⟨m, hm⟩ : ∃ x, List.length tc = x := ⟨_, rfl⟩
          rw [hi'] at g0 hlt ⊢
          rw [hm] at f0 hlt
          have q1 : (i : Int) < (m : Int) := by omega
          have hpv : (prCells p)[1]? = some (.string (tstr p.val)) := rfl
          obtain ⟨sv, hsv⟩ : ∃ x, tstr p.val = x := ⟨_, rfl⟩
          have HSV := Lib.hid hsv
          have HGL := Lib.hid hg
          rw [hsv] at hpv
          have hg0 : w3.cell? ⟨b2, off + (i * 2 + 1), none⟩ = some (.string sv) := by rw [← hsv]; exact g0
          rw [← Nat.add_assoc] at hg0
          have hcv := run_tobytes w3 sv
          obtain ⟨cz, hcz⟩ : ∃ x, grownCap w3 sv.size 0 5 = x := ⟨_, rfl⟩
          rw [hcz] at hcv
          obtain ⟨w4, hw4⟩ : ∃ x, w3.drew.alloc (bytesObj sv cz) = x := ⟨_, rfl⟩
          obtain ⟨gz, hgz⟩ : ∃ x, w3.heap.size = x := ⟨_, rfl⟩
          have hb4 : Below w3.heap.size w3 w4 := by rw [← hw4]; exact ((Below.refl w3.heap.size w3).drew).alloc (Nat.le_refl _) _
          have hat4 : BytesAt w4 (some ⟨gz, 0, none⟩) sv.data.toList := by
            refine bytesObj_at (cap := cz) ?_
            rw [← hw4, ← hgz]
            exact heap_alloc_new w3.drew _
          rw [hw4, hgz] at hcv
          have HAT4 := Lib.hid hat4
          have HTZ : Hid (Typ w4 gz 5) := by rw [Hid, ← hw4, ← hgz]; exact ⟨_, _, heap_alloc_new w3.drew _⟩
          have HGZ : Hid (gz ≠ go) := fun e => by have := BO3.out.lt; omega
          have HW4 := Lib.hid (HW3.out.below hb4)
          have HT4 := Lib.hid (HT3.out.below hb4)
          have BO4 := Lib.hid (BO3.out.below hb4 BO3.out.lt)
          have hz0 := BO4.out.cell 0
          have hz1 := BO4.out.frozen 0
          simp only [List.getElem?_cons_zero] at hz0
          clear hb3 hBh hp hg hbl hca hs3 at_ g0 hi' hm hpv hsv hcz hw4 hgz hb4 hat4
          go_wp2_with fail
          go_end0
          have ho : Only (· = go) w4 (w4.setCell ⟨go, 0, none⟩ (.slice (some ⟨gz, 0, none⟩) sv.size cz)) := (Only.refl (· = go) w4).setCell (p := ⟨go, 0, none⟩) (.inl rfl) _
          have hk := one_kinds BO4.out
          have hsz : sv.size = p.val.length := by rw [← HSV.out, tstr_size]
          have hby : sv.data.toList = p.val := by rw [← HSV.out]; simp [tstr]
          refine ⟨(H0.out.trans HT4.out.tft).since ho (fun x hx e => by have := HGO.out; omega) (H0typ.out), (fun b cs hb => ho.blk_ hk (HT4.out.blk hb (by decide) (by decide)) (by decide)), .inl ⟨G2, rd2, some ⟨gz, 0, none⟩, cz, p.val, rfl, HGL.out, HW4.out.only ho hk (by decide) (by decide) (by decide) (by decide) (by decide), HE2.out, HR2.out.mono (by omega), ?_, ?_, fun q hq => by injection hq with hq; subst hq; exact HTZ.out.only ho hk (by decide)⟩⟩
          · rw [← hsz]; exact BO4.out.set_ 0 _
          · rw [← hby]; exact byt_only HAT4.out ho HGZ.out
      | succ hc =>
        obtain ⟨rs, ⟨b, rfl, hi2⟩, hrl, hgk, _⟩ := hP2
        have hfit : Pl.Fit (hc + 1) tc := Pl.PFit.root HPF.out
        have hks := len_le_isz tc.1
        have hklen : tc.1.length ≤ 60 := by have := hfit.2.2.1; omega
        have hway := Pl.wayOf_le tc.1 key
        obtain ⟨i, hi'⟩ : ∃ i, Pl.wayOf tc.1 key = i := ⟨_, rfl⟩
        rw [hi'] at hway
        obtain ⟨c, hcc⟩ : ∃ c, tc.2[i]? = some c := ⟨_, List.getElem?_eq_getElem (by have := hfit.1; omega)⟩
        have hlf : Pl.leafOf (hc + 1) tc key = Pl.leafOf hc c key := Pl.leafOf_kid (by rw [hi']; exact hcc)
        have hcfit := hfit.2.2.2.2 c (List.mem_of_getElem? hcc)
        have hcs := Pl.SpnK.at_ i c HSPN.out hcc
        have hcin : Pl.InS (Pl.kLo lo tc.1 i) (Pl.kHi hi tc.1 i) key := by have := Pl.SpnK.way key HSPN.out HINS.out; rw [hi'] at this; exact this
        have HWY := Lib.hid (way_any b tc.1 rs key w2 hi2 (Pl.SpnK.keys HSPN.out).1 (by omega))
        rw [hi'] at HWY
        have HI2 := Lib.hid hi2
        have HCF : Hid (Pl.PFit (decide (j + 1 = 0)) hc c) := by rw [Hid, decide_eq_false (by omega)]; exact hcfit
        have HCS := Lib.hid hcs
        have HCI := Lib.hid hcin
        have HLC : Hid (Pl.leafOf hc c key = LF) := hlf.symm.trans HLFr.out
        obtain ⟨n, hnl⟩ : ∃ n, tc.1.length = n := ⟨_, rfl⟩
        have HRL : Hid (rs.length = n + 1) := by rw [Hid, hrl, hfit.1, hnl]
        obtain ⟨rk, hrk⟩ : ∃ r, rs[i]? = some r := ⟨_, List.getElem?_eq_getElem (by rw [HRL.out]; omega)⟩
        have HRK := Lib.hid hrk
        have HGR : Hid (G2 rk = some ⟨hc, c⟩) := hgk i rk c hrk hcc
        have HWL : Hid (i ≤ tc.1.length ∧ tc.1.length ≤ 1000) := ⟨hway, by omega⟩
        rw [hnl] at hway
        clear hi2 hrl hgk hfit hks hklen hi' hcc hlf hcfit hcs hcin hnl hrk
        unfold innerV
        go_wp2_with fail
        refine HWY.out.mono ?_
        rintro e w3 ⟨rfl, hb3⟩
        have HW3 := Lib.hid (HW2.out.below hb3)
        have HT3 := Lib.hid (HT2.out.below hb3)
        have HS3 := Lib.hid (HS2.out.below hb3 HS2.out.lt)
        have HI3 := Lib.hid (HI2.out.below hb3)
        have HKID := Lib.hid (kid_any lo hi b tc.1 rs i w3 HI3.out HWL.out.1 HWL.out.2)
        rw [ES.out] at HKID
        obtain ⟨e0, e1, e2, _, _, _⟩ := facts3' HS3.out
        clear hb3
        go_wp2_with fail
        refine HKID.out.mono ?_
        rintro e w4 ⟨rfl, hb4⟩
        have HW4 := Lib.hid (HW3.out.below hb4)
        have HT4 := Lib.hid (HT3.out.below hb4)
        have HS4 := Lib.hid (HS3.out.below hb4 HS3.out.lt)
        have hi4 := HI3.out.below hb4
        obtain ⟨A, ca, A', ca', hbb, _, _, hsa, htr⟩ := hi4
        obtain ⟨bk, ok, rfl, g0⟩ := htr.1.at_ _ _ (refs_at HRK.out)
        unfold refV at g0
        have hne1 : b ≠ gs := hbb.ne HS4.out (by decide)
        have hne2 : bk ≠ gs := fun e => absurd ((htr.2 _ rfl).uniq (e ▸ HS4.out.typ)) (by decide)
        obtain ⟨_, x1, _, _⟩ := facts2 hbb
        rw [HRL.out] at x1
        obtain ⟨f0, f1, f2, f3, f4, f5⟩ := facts3' HS4.out
        obtain ⟨sl', hsl'⟩ : ∃ s, tstr (Pl.kLo lo tc.1 i) = s := ⟨_, rfl⟩
        obtain ⟨sh', hsh'⟩ : ∃ s, tstr ((Pl.kHi hi tc.1 i).getD []) = s := ⟨_, rfl⟩
        obtain ⟨bn', hbn'⟩ : ∃ b, (Pl.kHi hi tc.1 i).isNone = b := ⟨_, rfl⟩
        have es : spanV (Pl.kLo lo tc.1 i) (Pl.kHi hi tc.1 i) = .agg #[.string sl', .string sh', .bool bn'] := by unfold spanV; rw [hsl', hsh', hbn']
        have es' : spanC (Pl.kLo lo tc.1 i) (Pl.kHi hi tc.1 i) = [.string sl', .string sh', .bool bn'] := by unfold spanC; rw [hsl', hsh', hbn']
        rw [es]
        have ES' := Lib.hid es'
        have q1 : (i : Int) < (n : Int) + 1 := by omega
        have hwr : IntKind.i64.wrap ((j : Int) + 1) = (j : Int) + 1 := IntWalk.i64_in _ (by omega)
        clear hb4 hbb hsa htr es es' hsl' hsh' hbn'
        go_wp2_with fail
        have ho : Only (· = gs) w4 (((w4.setCell ⟨gs, 0, none⟩ (.string sl')).setCell ⟨gs, 1, none⟩ (.string sh')).setCell ⟨gs, 2, none⟩ (.bool bn')) :=
          (((Only.refl (· = gs) w4).setCell (p := ⟨gs, 0, none⟩) (.inl rfl) _).setCell (p := ⟨gs, 1, none⟩) (.inl rfl) _).setCell (p := ⟨gs, 2, none⟩) (.inl rfl) _
        have hk := one_kinds HS4.out
        exact ⟨⟨j + 1, hc, c, Pl.kLo lo tc.1 i, Pl.kHi hi tc.1 i, rk, G2, rd2, by omega, rfl, by go_num, by rw [ES'.out]; exact ((HS4.out.set_ 0 _).set_ 1 _).set_ 2 _, HW4.out.only ho hk (by decide) (by decide) (by decide) (by decide) (by decide), HE2.out, HT4.out.since ho (fun x hx e => by have := HGS.out; omega), HR2.out, HGR.out, HCF.out, HCS.out, HCI.out, HLC.out⟩, by simp [intOf]; omega⟩
end Go.Proofs.YtljmklohgpaopaaGreatDoor

namespace Go.Proofs.YtljmklohgpaopaaGreatDoor
open Go.RowKit
set_option linter.unusedSectionVars false
variable [Inhabited LoT]

theorem byt_kinds {F : Nat → Prop} {w w' : World} {A : Option Addr} {l : List UInt8} {ts : List TypeId} (h : BytesAt w A l) (ht : ∀ q, A = some q → Typ w q.block 5) (ho : Only F w w') (hk : Kinds F w ts) (h1 : 5 ∉ ts) : BytesAt w' A l := by
  rcases h with h | ⟨b, off, rfl, h⟩
  · exact .inl h
  · refine .inr ⟨b, off, rfl, fun i hi => ho.cell (h i hi) (fun hf => ?_)⟩
    obtain ⟨t, h2, h3⟩ := hk _ hf
    exact h1 ((ht _ rfl).uniq h3 ▸ h2)
/-- What Get leaves. -/
def GQ (E : TEnv) (n : Nat) (rd : Int) (G : Gh) (key : Pl.Key) (ps : List Pl.Pr) (go : Nat) (b : Bool) (w0 : World) (k : Nat) (w' : World) : Prop :=
  TFt E.gT w0 w' ∧ ((k = 0 ∧ ∃ G' rd' A cap l, Pl.getL key ps = some l ∧ TW E w' rd' G' ∧ Ext G G' ∧ RdK n rd rd' ∧ Blk w' go 25 [.slice A l.length cap] ∧ BytesAt w' A l ∧ ∀ q, A = some q → Typ w' q.block 5)
  ∨ (k = 3 ∧ E.d.life = 0 ∧ (∃ rd', DiskAt w' E.m.g E.vD E.d rd') ∧ TmAt w' E.gT { E.m with bad := b } ∧ Blk w' go 25 [.slice none 0 0])
  ∨ (k = 8 ∧ Pl.getL key ps = none ∧ Blk w' go 25 [.slice none 0 0] ∧ ∃ G' rd', TW E w' rd' G' ∧ Ext G G' ∧ RdK n rd rd'))
theorem GtPost.q {E : TEnv} {n : Nat} {rd : Int} {G : Gh} {key : Pl.Key} {ps : List Pl.Pr} {go : Nat} {w0 w : World} {e : Ending} {w' : World} (hb : E.m.bad = false) (h : GtPost E n rd G key ps go w0 w e w') : ∃ k, TEndK k e ∧ GQ E n rd G key ps go false w0 k w' := by
  obtain ⟨h0, _, ⟨G', rd', A, cap, l, rfl, h1⟩ | ⟨h1, rfl, h2, h3, h4⟩ | ⟨h1, rfl, h2, h3⟩⟩ := h
  · exact ⟨0, .inl ⟨rfl, rfl⟩, h0, .inl ⟨rfl, G', rd', A, cap, l, h1⟩⟩
  · exact ⟨3, .inr ⟨by omega, by omega, rfl⟩, h0, .inr (.inl ⟨rfl, h1, h2, by rw [Tm.eta hb]; exact h3, h4⟩)⟩
  · exact ⟨8, .inr ⟨by omega, by omega, rfl⟩, h0, .inr (.inr ⟨rfl, h1, h2, h3⟩)⟩
theorem GQ.tree {E : TEnv} {n : Nat} {rd : Int} {G : Gh} {key : Pl.Key} {ps : List Pl.Pr} {go : Nat} {w0 : World} {k : Nat} {w' : World} (hb : E.m.bad = false) (h : GQ E n rd G key ps go false w0 k w') : ∃ m : Tm, m.bad = false ∧ TmAt w' E.gT m := by
  obtain ⟨h0, ⟨rfl, G', rd', A, cap, l, _, h1, _⟩ | ⟨rfl, _, _, h3, _⟩ | ⟨rfl, _, _, G', rd', h1, _⟩⟩ := h
  · exact ⟨_, hb, h1.tree⟩
  · exact ⟨_, rfl, h3⟩
  · exact ⟨_, hb, h1.tree⟩
theorem GQ.done {E : TEnv} {n : Nat} {rd : Int} {G : Gh} {key : Pl.Key} {ps : List Pl.Pr} {go : Nat} {w0 w : World} {k : Nat} {w' w'' : World} (hT : Typ w0 E.gT 158) (hlo : LO ≤ E.gT) (hb : E.m.bad = false) (hle : w0.heap.size ≤ w.heap.size) (he : Blk w' w.heap.size 83 [.nilIface]) (h : GQ E n rd G key ps go false w0 k w')
    (ho : Only (fun b => b = w.heap.size ∨ b = E.gT) w' w'') (ht : ∀ c0 c1 c2 c3 c4 c5 c6 c7, Blk w' E.gT 158 [c0, c1, c2, c3, c4, c5, c6, c7] → Blk w'' E.gT 158 [c0, c1, c2, c3, c4, c5, c6, .bool (k == 3)]) : GQ E n rd G key ps go true w0 k w'' := by
  obtain ⟨m, hm, hmt⟩ := h.tree hb
  have hk : Kinds (fun b => b = w.heap.size ∨ b = E.gT) w' [83, 158] := by
    rintro b (rfl | rfl)
    · exact ⟨_, by simp, he.typ⟩
    · exact ⟨_, by simp, hmt.typ⟩
  have htt : ∀ m' : Tm, TmAt w' E.gT m' → TmAt w'' E.gT { m' with bad := (k == 3) } := fun m' hm' => ht _ _ _ _ _ _ _ _ hm'
  obtain ⟨h0, h1⟩ := h
  refine ⟨h0.since ho (fun x hx hf => by rcases hf with e | e; exact absurd e (by omega); exact ⟨e, by rw [e]; exact hlo⟩) hT, ?_⟩
  rcases h1 with ⟨rfl, G', rd', A, cap, l, h1, h2, h3, h4, h5, h6, h7⟩ | ⟨rfl, h1, ⟨rd', h2⟩, h3, h4⟩ | ⟨rfl, h1, h2, G', rd', h3, h4⟩
  · refine .inl ⟨rfl, G', rd', A, cap, l, h1, h2.do ho hk ?_, h3, h4, ho.blk_ hk h5 (by decide), byt_kinds h6 h7 ho hk (by decide), fun q hq => (h7 q hq).only ho hk (by decide)⟩
    have := htt _ h2.tree
    rwa [show ((0 : Nat) == 3) = false from rfl, Tm.eta hb] at this
  · exact .inr (.inl ⟨rfl, h1, ⟨rd', h2.only_ ho hk (by decide) (by decide)⟩, htt { E.m with bad := false } h3, ho.blk_ hk h4 (by decide)⟩)
  · refine .inr (.inr ⟨rfl, h1, ho.blk_ hk h2 (by decide), G', rd', h3.do ho hk ?_, h4⟩)
    have := htt _ h3.tree
    rwa [show ((8 : Nat) == 3) = false from rfl, Tm.eta hb] at this
theorem enters_get1 (caps : Array Value) (W : World) : (callFunc 94 caps).run Tryz.prog W = .ok (.enter 94 caps) W := by simp [go_sem]
set_option maxRecDepth 100000 in
set_option maxHeartbeats 4000000 in
theorem tget_any (E : TEnv) (A : Option Addr) (ca : Nat) (key : Pl.Key) (hkf : Pl.KeyFit key) (hn : E.m.n ≤ 4096) (hbad : E.m.bad = false) (h : Nat) (t : Pl.Tr h) (w : World) (rd : Int) (G : Gh) (hw : TW E w rd G) (hG : G E.m.root = some ⟨h, t⟩) (hok : Pl.RootOk ⟨h, t⟩) (hh : h ≤ 62) (hev : EvAt w) (hA : BytesAt w A key) :
    Calls Tryz.prog 48 #[.pointer (some ⟨E.gT, 0, none⟩), .slice A key.length ca] w fun e w' => ∃ k go v, e = .returned (.tuple #[v, errK k]) ∧ w.heap.size ≤ go ∧ w'.cell? ⟨go, 0, none⟩ = some v ∧ GQ E (h + 1) rd G key (Pl.leafOf h t key) go true w k w' := by
  obtain ⟨gt, hgt⟩ : ∃ g, w.heap.size = g := ⟨_, rfl⟩
  obtain ⟨w1, hw1⟩ : ∃ x, w.alloc (.cells #[.pointer (some ⟨E.gT, 0, none⟩)] 45) = x := ⟨_, rfl⟩
  have hb1 : Below w.heap.size w w1 := by rw [← hw1]; exact (Below.refl _ _).alloc (Nat.le_refl _) _
  have B1 : Blk w1 gt 45 [.pointer (some ⟨E.gT, 0, none⟩)] := by rw [← hw1, ← hgt]; exact Blk.new w 45 _
  obtain ⟨gk, hgk⟩ : ∃ g, w1.heap.size = g := ⟨_, rfl⟩
  obtain ⟨w2, hw2⟩ : ∃ x, w1.alloc (.cells #[.string (tstr key)] 9) = x := ⟨_, rfl⟩
  have hb2 : Below w1.heap.size w1 w2 := by rw [← hw2]; exact (Below.refl _ _).alloc (Nat.le_refl _) _
  have B2 : Blk w2 gk 9 [.string (tstr key)] := by rw [← hw2, ← hgk]; exact Blk.new w1 9 _
  obtain ⟨go, hgo⟩ : ∃ g, w2.heap.size = g := ⟨_, rfl⟩
  obtain ⟨w3, hw3⟩ : ∃ x, w2.alloc (.cells #[.slice none 0 0] 25) = x := ⟨_, rfl⟩
  have hb3 : Below w2.heap.size w2 w3 := by rw [← hw3]; exact (Below.refl _ _).alloc (Nat.le_refl _) _
  have B3 : Blk w3 go 25 [.slice none 0 0] := by rw [← hw3, ← hgo]; exact Blk.new w2 25 _
  have hb12 := hb1.trans (hb2.mono hb1.size)
  have hb13 := hb12.trans (hb3.mono hb12.size)
  have hgo' : w.heap.size ≤ go := by rw [← hgo]; exact hb12.size
  have c0 := (B1.below (hb2.trans (hb3.mono hb2.size)) B1.lt)
  have BK2 := B2.below hb3 B2.lt
  have cv1 := run_tostr (w1.alloc (.cells #[.string ⟨#[]⟩] 9)) A key ca (BytesAt.keep hA (hb1.alloc hb1.size _))
  have cv2 := run_tostr w1 A key ca (BytesAt.keep hA hb1)
  obtain ⟨LF, hLF⟩ : ∃ x, Pl.leafOf h t key = x := ⟨_, rfl⟩
  have HDO : Hid (Calls Tryz.prog 89 #[.pointer (some ⟨E.gT, 0, none⟩), .func (.func 94) #[] #[.pointer (some ⟨gt, 0, none⟩), .pointer (some ⟨gk, 0, none⟩), .pointer (some ⟨go, 0, none⟩)]] w3 fun e w' => ∃ k, e = .returned (errK k) ∧ GQ E (h + 1) rd G key LF go true w k w') := by
    have hw3' := hw.below hb13
    obtain ⟨W1, hW1⟩ : ∃ x, w3.alloc (.cells #[.nilIface] 83) = x := ⟨_, rfl⟩
    have hbe : Below w3.heap.size w3 W1 := by rw [← hW1]; exact (Below.refl _ _).alloc (Nat.le_refl _) _
    have he : Blk W1 w3.heap.size 83 [.nilIface] := by rw [← hW1]; exact Blk.new w3 83 _
    have hp := get1_any E gt gk go key hn h t w W1 rd G (hw3'.below hbe) hG hok hh (hev.tfr ((TFr.of_below hb13).below hbe)) (c0.below hbe c0.lt) (BK2.below hbe BK2.lt) (B3.below hbe B3.lt) ((TFr.of_below hb13).below hbe).tft hw.tree.typ hgo'
    rw [hLF] at hp
    have hd := tdo_any E.gT E.m 94 #[.pointer (some ⟨gt, 0, none⟩), .pointer (some ⟨gk, 0, none⟩), .pointer (some ⟨go, 0, none⟩)] w3 hw3'.tree hbad (fun k w' => Blk w' w3.heap.size 83 [.nilIface] ∧ GQ E (h + 1) rd G key LF go false w k w') (enters_get1 _)
      (fun k w' hq => by
        obtain ⟨m, hm, ht⟩ := hq.2.tree hbad
        obtain ⟨m0, m1, m2, m3, m4, m5, m6, m7⟩ := m
        dsimp only at hm
        subst hm
        exact ⟨_, _, _, _, _, _, _, ht⟩)
      (by
        rw [hW1]
        exact hp.mono fun e w' hc => by
          obtain ⟨k, hk, hq⟩ := hc.q hbad
          have hbk := hc.2.1 _ _ he
          exact ⟨hbk, k, hk, hbk, hq⟩)
    refine hd.mono ?_
    rintro e w'' ⟨k, w', ⟨hbk, hq⟩, he', ho, hx⟩
    exact ⟨k, he', hq.done hw.tree.typ hw.low.t hbad hb13.size hbk ho hx⟩
  have HKF := Lib.hid hkf
  have hmf : ∀ (fn : Fn) (first cap : Array Value) (w : World), (Instr.makeFunc fn first cap).run Tryz.prog w = .ok (.func fn first cap) w := fun _ _ _ _ => rfl
  obtain ⟨nk, hnk⟩ : ∃ x, key.length = x := ⟨_, rfl⟩
  rw [hnk] at cv1 cv2 ⊢
  rw [hLF]
  have d0 := c0.cell 0
  have d1 := BK2.cell 0
  have d1' := B2.cell 0
  have d2 := B3.cell 0
  simp only [List.getElem?_cons_zero] at d0 d1 d1' d2
  have HGO := Lib.hid hgo'
  clear hLF hw hG hok hev hA hkf hb1 hb2 hb3 hb12 hb13 hgo' c0 BK2 B1 B2 B3 hnk
  go_enter Tryz.func48, Tryz.ntmps48
  go_wp2_with fail
  refine (treeKey_any key _ HKF.out).mono ?_
  rintro e w' ⟨rfl, rfl⟩
  go_wp2_with fail
  refine HDO.out.mono ?_
  rintro e w' ⟨k, rfl, hq⟩
  have HQ := Lib.hid hq
  obtain ⟨v, hv⟩ : ∃ v, w'.cell? ⟨go, 0, none⟩ = some v := by
    obtain ⟨_, ⟨_, _, _, _, _, _, _, _, _, _, h5, _⟩ | ⟨_, _, _, _, h4⟩ | ⟨_, _, h2, _⟩⟩ := hq
    · exact ⟨_, h5.cell 0⟩
    · exact ⟨_, h4.cell 0⟩
    · exact ⟨_, h2.cell 0⟩
  clear hq
  go_wp2_with fail
  go_ret2
  exact ⟨k, go, v, rfl, HGO.out, hv, HQ.out⟩
end Go.Proofs.YtljmklohgpaopaaGreatDoor

namespace Go.Proofs.YtljmklohgpaopaaGreatDoor
open Go.RowKit
set_option linter.unusedSectionVars false
variable [Inhabited LoT]

theorem EvAt.far {w : World} {g : Nat} {v : Value} {d : Pl.Dk} {rd : Int} (h : EvAt w) (hd : DiskAt w g v d rd) (h0 : 0 < d.secs.length) : v.ownBlock ≠ some 0 := by
  intro e
  obtain ⟨s, hs⟩ : ∃ s, d.secs[0]? = some s := ⟨_, List.getElem?_eq_getElem h0⟩
  have h1 := flat_at (f := secCells) (s := 5) (fun _ => rfl) d.secs 0 s hs 0 (by omega)
  have h2 := hd.own.cells e 0 (.string (tstr s.now)) (by simpa [secsCells, secCells] using h1)
  have h3 := h.1
  rw [addr_add] at h2
  have h4 : some (Value.string (tstr s.now)) = some (Value.string (tstr [])) := h2.symm.trans h3
  injection h4 with h4
  injection h4 with h4
  have h5 := congrArg ByteArray.size h4
  rw [tstr_size, tstr_size, (hd.sized s (List.mem_of_getElem? hs)).1] at h5
  simp at h5

set_option maxRecDepth 100000 in
set_option maxHeartbeats 4000000 in
theorem twriteB (gT : Nat) (m : Tm) (rest : List Value) (vD : Value) (d : Pl.Dk) (rd : Int) (i : Nat) (t : List UInt8) (w : World) (hT : Blk w gT 158 (.pointer (some ⟨m.g, 0, none⟩) :: .int .i64 (m.first : Nat) :: rest)) (h : DiskAt w m.g vD d rd) (hi : m.first + i < d.secs.length) (ht : t.length ≤ 256) :
    Calls Tryz.prog 79 #[.pointer (some ⟨gT, 0, none⟩), .int .i64 (i : Nat), .string (tstr t)] w fun e w' => TEnds d.alive 3 e ∧ DiskAt w' m.g vD (d.change (.wr (m.first + i) t)) rd ∧ Only (dF m.g vD) w w' := by
  have hmost := h.most
  have hk := h.kinds
  obtain ⟨g, first, n, root, saved, seq, pages, bad⟩ := m
  dsimp only at h hi hT hk
  have c0 : w.cell? ⟨gT, 0, none⟩ = some (.pointer (some ⟨g, 0, none⟩)) := hT.cell 0
  have c1 : w.cell? ⟨gT, 1, none⟩ = some (.int .i64 (first : Nat)) := hT.cell 1
  have H := Lib.hid (fun W hW => dwrite_any g vD d rd (first + i) t W hW hi ht)
  have HD := Lib.hid h
  obtain ⟨x, hx⟩ : ∃ x, first + i = x := ⟨_, rfl⟩
  have hxi : (first : Int) + (i : Int) = (x : Int) := by omega
  have HX := Lib.hid hx
  have hwx : IntKind.i64.wrap (x : Int) = x := IntWalk.i64_in _ (by omega)
  rw [hx] at hi H
  have HT := Lib.hid hT
  have HNF : Hid (¬ dF g vD gT) := fun hf => by
    obtain ⟨t', k1, k2⟩ := hk gT hf
    obtain rfl := k2.uniq hT.typ
    exact absurd k1 (by decide)
  obtain ⟨z, hz⟩ : ∃ z, tstr t = z := ⟨_, rfl⟩
  rw [hz] at H ⊢
  clear h hT hx hk hz
  have hx2 : (x : Int) ≤ 4096 := by omega
  have S0 := Lib.hid (And.intro c0 c1)
  go_enter Tryz.func79, Tryz.ntmps79
  go_wp2_with fail
  go_region_held3 (fun W : World => W.cell? ⟨gT, 0, none⟩ = some (.pointer (some ⟨g, 0, none⟩)) ∧ W.cell? ⟨gT, 1, none⟩ = some (.int .i64 (first : Nat))) (first | exact S0.out | exact S1.out) (first
    | (go_at_call 125
       refine (H.out _ (HD.out.only ((Only.refl (fun _ => False) w).drew) (fun _ _ => id))).mono ?_
       rintro e w1 ⟨rfl, h1, h3'⟩
       have h3 : Only (dF g vD) w w1 := h3'.undrew
       clear h3'
       have H1 := Lib.hid h1
       have H3 := Lib.hid h3
       have BT := Lib.hid (h3.blk HT.out HNF.out)
       have S1 := Lib.hid (And.intro (BT.out.cell 0) (BT.out.cell 1))
       clear h1 h3)
    | fail)
  cases hal : d.alive
  all_goals
    have HAL := Lib.hid hal
    clear hal
  · go_wp2_with fail
    refine (tfail_any 3 _).mono ?_
    rintro e w' ⟨rfl, rfl⟩
    unfold tdied
    go_wp2_with fail
    exact ⟨rfl, by rw [HAL.out]; exact TEnds.no 3, by rw [HX.out]; exact H1.out, H3.out⟩
  · go_wp2_with fail
    go_end0
    exact ⟨by rw [HAL.out]; exact TEnds.good 3, by rw [HX.out]; exact H1.out, H3.out⟩
set_option maxRecDepth 100000 in
set_option maxHeartbeats 4000000 in
theorem tsyncB (gT : Nat) (m : Tm) (rest : List Value) (vD : Value) (d : Pl.Dk) (rd : Int) (w : World) (hT : Blk w gT 158 (.pointer (some ⟨m.g, 0, none⟩) :: rest)) (h : DiskAt w m.g vD d rd) :
    Calls Tryz.prog 80 #[.pointer (some ⟨gT, 0, none⟩)] w fun e w' => TEnds d.alive 3 e ∧ DiskAt w' m.g vD (d.change .sy) rd ∧ Only (dF m.g vD) w w' := by
  have hm : w.cell? ⟨gT, 0, none⟩ = some (.pointer (some ⟨m.g, 0, none⟩)) := hT.cell 0
  obtain ⟨g, hg⟩ : ∃ g, m.g = g := ⟨_, rfl⟩
  rw [hg] at hm h ⊢
  have H := Lib.hid (dsync_any g vD d rd w h)
  clear h hT hg
  go_enter Tryz.func80, Tryz.ntmps80
  go_wp2_with fail
  refine H.out.mono ?_
  rintro e w1 ⟨rfl, h1, h2⟩
  have H1 := Lib.hid h1
  have H2 := Lib.hid h2
  clear h1 h2 H
  cases hal : d.alive
  all_goals
    have HAL := Lib.hid hal
    clear hal
  · go_wp2_with fail
    refine (tfail_any 3 _).mono ?_
    rintro e w' ⟨rfl, rfl⟩
    unfold tdied
    go_wp2_with fail
    exact ⟨rfl, by rw [HAL.out]; exact TEnds.no 3, H1.out, H2.out⟩
  · go_wp2_with fail
    go_end0
    exact ⟨by rw [HAL.out]; exact TEnds.good 3, H1.out, H2.out⟩
theorem twrite_any (gT : Nat) (m : Tm) (vD : Value) (d : Pl.Dk) (rd : Int) (i : Nat) (t : List UInt8) (w : World) (hT : TmAt w gT m) (h : DiskAt w m.g vD d rd) (hi : m.first + i < d.secs.length) (ht : t.length ≤ 256) :
    Calls Tryz.prog 79 #[.pointer (some ⟨gT, 0, none⟩), .int .i64 (i : Nat), .string (tstr t)] w fun e w' => TEnds d.alive 3 e ∧ DiskAt w' m.g vD (d.change (.wr (m.first + i) t)) rd ∧ Only (dF m.g vD) w w' := twriteB gT m _ vD d rd i t w hT h hi ht
theorem tsync_any (gT : Nat) (m : Tm) (vD : Value) (d : Pl.Dk) (rd : Int) (w : World) (hT : TmAt w gT m) (h : DiskAt w m.g vD d rd) :
    Calls Tryz.prog 80 #[.pointer (some ⟨gT, 0, none⟩)] w fun e w' => TEnds d.alive 3 e ∧ DiskAt w' m.g vD (d.change .sy) rd ∧ Only (dF m.g vD) w w' := tsyncB gT m _ vD d rd w hT h
end Go.Proofs.YtljmklohgpaopaaGreatDoor

namespace Go.Proofs.Pl
def dcount (n : Nat) (js : List Nat) : Nat := (List.range n).countP (fun j => decide (j ∈ js))
def freeN (x n : Nat) (js : List Nat) : Nat := (List.range n).countP (fun j => decide (x ≤ j ∧ j ∉ js))
theorem dcount_succ (n : Nat) (js : List Nat) : dcount (n + 1) js = dcount n js + if n ∈ js then 1 else 0 := by
  unfold dcount
  rw [List.range_succ, List.countP_append, List.countP_singleton]
  simp
theorem freeN_succ (x n : Nat) (js : List Nat) : freeN x (n + 1) js = freeN x n js + if x ≤ n ∧ n ∉ js then 1 else 0 := by
  unfold freeN
  rw [List.range_succ, List.countP_append, List.countP_singleton]
  simp
theorem dcount_step (js : List Nat) (j : Nat) : ∀ n, dcount n (js ++ [j]) = dcount n js + if j < n ∧ j ∉ js then 1 else 0
  | 0 => by simp [dcount]
  | n + 1 => by
    rw [dcount_succ, dcount_succ, dcount_step js j n]
    by_cases h1 : n ∈ js
    · by_cases h2 : j ∈ js
      · simp [h1, h2]
      · have : j ≠ n := fun e => h2 (e ▸ h1)
        by_cases h3 : j < n
        · simp [h1, h2, h3, Nat.lt_succ_of_lt h3]
        · have : ¬ j < n + 1 := by omega
          simp [h1, h2, h3, this]
    · by_cases h2 : n = j
      · subst h2
        simp [h1]
      · have h4 : j < n + 1 ↔ j < n := by omega
        simp [h1, h2, h4]
theorem dcount_le (n : Nat) (js : List Nat) : dcount n js ≤ n := by
  have := List.countP_le_length (p := fun j => decide (j ∈ js)) (l := List.range n)
  rwa [List.length_range] at this
theorem dcount_pos {n j : Nat} {js : List Nat} (h : j ∈ js) (hn : j < n) : 0 < dcount n js :=
  List.countP_pos_iff.2 ⟨j, List.mem_range.2 hn, by simpa using h⟩
/-- All sectors but the first two are used or free. -/
theorem free_used {js : List Nat} (h : ∀ j ∈ js, 2 ≤ j) : ∀ m, freeN 2 m js + dcount m js + 2 ≥ m
  | 0 => by omega
  | m + 1 => by
    have ih := free_used h m
    rw [freeN_succ, dcount_succ]
    by_cases h1 : m ∈ js
    · simp only [h1, if_true]; omega
    · by_cases h2 : 2 ≤ m
      · simp only [h1, h2, not_false_eq_true, and_self, if_true, if_false]; omega
      · omega
theorem freeN_none {x n : Nat} {js : List Nat} (h : ∀ j, x ≤ j → j < n → j ∈ js) : freeN x n js = 0 := by
  unfold freeN
  rw [List.countP_eq_zero]
  intro j hj
  have := List.mem_range.1 hj
  simp only [decide_eq_true_eq, not_and, Classical.not_not]
  exact fun hx => h j hx this
/-- The next one that is free. -/
theorem freeN_next (n : Nat) (js : List Nat) : ∀ (k x : Nat), n - x = k → 0 < freeN x n js → ∃ y, x ≤ y ∧ y < n ∧ y ∉ js ∧ (∀ j, x ≤ j → j < y → j ∈ js) ∧ freeN x n js = freeN (y + 1) n js + 1
  | k, x, hk, h => by
    rcases Nat.lt_or_ge x n with hx | hx
    · by_cases h1 : x ∈ js
      · have he : freeN x n js = freeN (x + 1) n js := by
          unfold freeN
          apply List.countP_congr
          intro j _
          simp only [decide_eq_true_eq]
          constructor
          · rintro ⟨h2, h3⟩
            refine ⟨?_, h3⟩
            rcases Nat.lt_or_ge x j with h4 | h4
            · exact h4
            · exact absurd (Nat.le_antisymm h2 h4 ▸ h1) h3
          · rintro ⟨h2, h3⟩
            exact ⟨by omega, h3⟩
        cases k with
        | zero => omega
        | succ k =>
          obtain ⟨y, y1, y2, y3, y4, y5⟩ := freeN_next n js k (x + 1) (by omega) (by omega)
          refine ⟨y, by omega, y2, y3, fun j hj hjy => ?_, by omega⟩
          rcases Nat.lt_or_ge x j with h2 | h2
          · exact y4 j h2 hjy
          · obtain rfl : j = x := by omega
            exact h1
      · refine ⟨x, Nat.le_refl _, hx, h1, fun j h2 h3 => by omega, ?_⟩
        have key : ∀ m, freeN x m js = freeN (x + 1) m js + if x < m then 1 else 0 := by
          intro m
          induction m with
          | zero => simp [freeN]
          | succ m ih =>
            rw [freeN_succ, freeN_succ, ih]
            by_cases h2 : x = m
            · subst h2; simp [h1]
            · by_cases h3 : x < m
              · have h4 : x ≤ m := by omega
                have h5 : x + 1 ≤ m := by omega
                have h6 : x < m + 1 := by omega
                simp only [h3, h4, h5, h6, if_true, true_and]; omega
              · have h4 : ¬ x ≤ m := by omega
                have h5 : ¬ x + 1 ≤ m := by omega
                have h6 : ¬ x < m + 1 := by omega
                simp [h3, h4, h5, h6]
        rw [key n, if_pos hx]
    · rw [freeN_none (fun j h1 h2 => by omega)] at h
      omega
end Go.Proofs.Pl

namespace Go.Proofs.YtljmklohgpaopaaGreatDoor
open Go.RowKit Go.Maps Go.WideMaps
set_option linter.unusedSectionVars false
variable [Inhabited LoT]

theorem Tryz.keyInt : Keyed Tryz.prog 3 := int_keyed Tryz.underlying3
theorem Tryz.zeroInt' (w : World) : (zeroValue 3).run Tryz.prog w = .ok (.int .i64 0) w := by kernel_rfl
theorem wf_nat (j : Nat) (hj : j ≤ 100000) : (Lit.int .i64 (j : Int)).wf = true := by
  simp only [Lit.wf, IntKind.min, IntKind.max, IntKind.signed, IntKind.bits]
  first | (simp; omega) | (simp [IntKind.i64]; omega) | omega
/-- Block b is a map that has counted these sectors. -/
def UsedAt (w : World) (b k : Nat) (js : List Nat) : Prop :=
  ∃ D : DataW Unit, w.ownsMap Tryz.prog 3 (plainElem Tryz.prog 3) b k D ∧ (∀ j : Nat, D.atKey (.int .i64 (j : Int)) (.lit (.int .i64 0)) = .lit (.int .i64 ((js.count j : Nat) : Int))) ∧ (∀ n, (∀ j ∈ js, j < n) → Maps.size D = Pl.dcount n js) ∧ ∀ j : Nat, Maps.has D (.int .i64 (j : Int)) = decide (j ∈ js)
theorem UsedAt.heap {w w' : World} {b k : Nat} {js : List Nat} (h : UsedAt w b k js) (hh : w'.heap[b]? = w.heap[b]?) : UsedAt w' b k js := by
  obtain ⟨D, ⟨es, clock, h1, h2⟩, h3⟩ := h
  exact ⟨D, ⟨es, clock, hh.trans h1, h2⟩, h3⟩
theorem UsedAt.made (w : World) : UsedAt (w.alloc (.map #[] 0)) w.heap.size 0 [] := ⟨.map [], World.ownsMap_made _ _ _ _, fun s => rfl, fun n _ => by simp [Pl.dcount, Maps.size], fun _ => rfl⟩
theorem UsedAt.lt {w : World} {b k : Nat} {js : List Nat} (h : UsedAt w b k js) : b < w.heap.size := by
  obtain ⟨D, ⟨es, clock, h1, h2⟩, h3⟩ := h
  rcases Nat.lt_or_ge b w.heap.size with h | h
  · exact h
  · rw [Array.getElem?_eq_none h] at h1; cases h1
/-- A block of cells is no map. -/
theorem UsedAt.ne {w : World} {b k g : Nat} {js : List Nat} {t : TypeId} {cs : List Value} (h : UsedAt w b k js) (hb : Blk w g t cs) : b ≠ g := by
  rintro rfl
  obtain ⟨D, ⟨es, clock, h1, h2⟩, h3⟩ := h
  unfold Blk at hb
  rw [hb] at h1
  cases h1
theorem UsedAt.only {F : Nat → Prop} {w w' : World} {b k : Nat} {js : List Nat} {ts : List TypeId} (h : UsedAt w b k js) (ho : Only F w w') (hk : Kinds F w ts) : UsedAt w' b k js := by
  refine h.heap (ho.block b h.lt (fun hf => ?_))
  obtain ⟨t, _, cs, fz, hb⟩ := hk b hf
  obtain ⟨D, ⟨es, clock, h1, h2⟩, h3⟩ := h
  rw [hb] at h1
  cases h1
set_option maxRecDepth 100000 in
theorem UsedAt.look {w : World} {b k : Nat} {js : List Nat} (h : UsedAt w b k js) (j : Nat) (hj : j ≤ 100000) :
    (Instr.lookup 234 (.map (some b)) (.int .i64 (j : Int)) false).run Tryz.prog w = .ok (.int .i64 ((js.count j : Nat) : Int)) w := by
  obtain ⟨D, hown, h3, _⟩ := h
  have hkey : keyOf Tryz.prog 3 (.int .i64 (j : Int)) = some (.int .i64 (j : Int)) := keyOf_int_mk Tryz.underlying3 (wf_nat j hj)
  obtain ⟨c, hrun, hat, _⟩ := hown.lookup_int Tryz.keyInt Tryz.underlying234 Tryz.underlying3 (Tryz.zeroInt' _) hkey
  rw [h3] at hat
  injection hat with hat
  injection hat with _ hat
  rw [hat]
  exact hrun
set_option maxRecDepth 100000 in
set_option maxHeartbeats 4000000 in
/-- The next sector that is free. -/
theorem free_any (gu gx gt gT b k : Nat) (m : Tm) (js : List Nat) (x y : Nat) (w : World) (hu : Blk w gu 234 [.map (some b)]) (hx : Blk w gx 3 [.int .i64 (x : Nat)]) (ht : Blk w gt 45 [.pointer (some ⟨gT, 0, none⟩)]) (hT : TmAt w gT m) (hU : UsedAt w b k js)
    (hxy : x ≤ y) (hy : y < m.n) (hn : m.n ≤ 4096) (hfree : y ∉ js) (hall : ∀ j, x ≤ j → j < y → j ∈ js) :
    Calls Tryz.prog 129 #[.pointer (some ⟨gu, 0, none⟩), .pointer (some ⟨gx, 0, none⟩), .pointer (some ⟨gt, 0, none⟩)] w fun e w' => e = .returned (.int .i64 (y : Nat)) ∧ Only (· = gx) w w' ∧ Blk w' gx 3 [.int .i64 ((y + 1 : Nat) : Int)] := by
  have hne1 : gu ≠ gx := hu.ne hx (by decide)
  have hne2 : gt ≠ gx := ht.ne hx (by decide)
  have hne3 : gT ≠ gx := hT.ne hx (by decide)
  have hne4 : b ≠ gx := hU.ne hx
  have HU := Lib.hid hu
  have HX := Lib.hid hx
  have HT := Lib.hid ht
  have HM := Lib.hid hT
  have HUU := Lib.hid hU
  have HFR := Lib.hid hfree
  have HAL := Lib.hid hall
  obtain ⟨n, hnn⟩ : ∃ n, m.n = n := ⟨_, rfl⟩
  rw [hnn] at hy hn
  have HN := Lib.hid hnn
  have N1 := Lib.hid hne1
  have N2 := Lib.hid hne2
  have N3 := Lib.hid hne3
  have N4 := Lib.hid hne4
  clear hu hx ht hT hU hfree hall hnn hne1 hne2 hne3 hne4
  go_enter Tryz.func129, Tryz.ntmps129
  go_wp2_with fail
  go_loopw [] (fun wr => ∃ j : Nat, x ≤ j ∧ j ≤ y ∧ Hid (Blk wr gx 3 [.int .i64 (j : Nat)]) ∧ Hid (Only (· = gx) w wr)) (fun wr => y + 1 - (match wr.cell? ⟨gx, 0, none⟩ with | some v => (intOf v).toNat | none => 0))
  case atStart => exact ⟨x, Nat.le_refl _, hxy, HX.out, Only.refl _ _⟩
  case round =>
    obtain ⟨j, hj1, hj2, HJ, HO⟩ := hrel
    obtain ⟨c0, f0⟩ := facts1 HJ.out
    have d0 : wr.cell? ⟨gu, 0, none⟩ = some (.map (some b)) := (HO.out.blk HU.out N1.out).cell 0
    have hU2 := HUU.out.heap (HO.out.block b HUU.out.lt N4.out)
    have hlk := hU2.look j (by omega)
    by_cases hjy : j < y
    · have hc : 0 < js.count j := List.count_pos_iff.2 (HAL.out j hj1 hjy)
      obtain ⟨c, hcc⟩ : ∃ c, js.count j = c := ⟨_, rfl⟩
      rw [hcc] at hlk hc
      have q1 : (0 : Int) < (c : Int) := by omega
      have hwr : IntKind.i64.wrap ((j : Int) + 1) = (j : Int) + 1 := IntWalk.i64_in _ (by omega)
      clear hcc hU2
      go_wp2_with fail
      have hb1 : Blk (wr.setCell ⟨gx, 0, none⟩ (.int .i64 ((j : Int) + 1))) gx 3 [.int .i64 ((j + 1 : Nat) : Int)] := HJ.out.set_ 0 _
      have e1 : (wr.setCell ⟨gx, 0, none⟩ (.int .i64 ((j : Int) + 1))).cell? ⟨gx, 0, none⟩ = some (.int .i64 ((j + 1 : Nat) : Int)) := hb1.cell 0
      refine ⟨⟨j + 1, by omega, by omega, hb1, HO.out.setCell (p := ⟨gx, 0, none⟩) (.inl rfl) _⟩, ?_⟩
      rw [e1, c0]
      simp [intOf]
      omega
    · obtain rfl : j = y := by omega
      have hc : js.count j = 0 := List.count_eq_zero.2 HFR.out
      rw [hc] at hlk
      have d1 : wr.cell? ⟨gt, 0, none⟩ = some (.pointer (some ⟨gT, 0, none⟩)) := (HO.out.blk HT.out N2.out).cell 0
      have d2 : wr.cell? ⟨gT, 2, none⟩ = some (.int .i64 (n : Nat)) := by rw [← HN.out]; exact (HO.out.blk HM.out N3.out).cell 2
      have q1 : (j : Int) < (n : Int) := by omega
      have q2 : decide ((j : Int) ≥ (n : Int)) = false := decide_eq_false (by omega)
      have hwr : IntKind.i64.wrap ((j : Int) + 1) = (j : Int) + 1 := IntWalk.i64_in _ (by omega)
      have hwr2 : IntKind.i64.wrap ((j : Int) + 1 - 1) = (j : Int) := by rw [IntWalk.i64_in _ (by omega)]; omega
      have hwr3 : IntKind.i64.wrap (j : Int) = (j : Int) := IntWalk.i64_in _ (by omega)
      clear hU2 hc
      go_wp2_with fail
      go_region
      all_goals
        go_wp2_with fail
        go_ret
        exact ⟨rfl, (HO.out.setCell (p := ⟨gx, 0, none⟩) (.inl rfl) _).drew, HJ.out.set_ 0 _⟩
end Go.Proofs.YtljmklohgpaopaaGreatDoor
