/- A tree: save. -/
import Derived.Test.YtljmklohgpaopaaGreatDoorMgPlanted21
set_option linter.unusedVariables false
set_option linter.unusedSimpArgs false

namespace Go.Proofs.YtljmklohgpaopaaGreatDoor
open Go.RowKit Go.Maps Go.WideMaps
set_option linter.unusedSectionVars false
variable [Inhabited LoT]

set_option maxRecDepth 100000 in
set_option maxHeartbeats 8000000 in
theorem save_any (E : TEnv) (h : Nat) (t : Pl.Tr h) (fr : Nat) (js : List Nat) (w : World) (rd : Int) (G : Gh) (hin : SvIn E w rd G h t fr js) :
    Calls Tryz.prog 81 #[.pointer (some ⟨E.gT, 0, none⟩)] w (SvPost E rd G h t js w) := by
  have hmm := @run_makeMap Tryz.prog
  obtain ⟨gt, hgt⟩ : ∃ g, w.heap.size = g := ⟨_, rfl⟩
  obtain ⟨w1, hw1⟩ : ∃ x, w.alloc (.cells #[.pointer (some ⟨E.gT, 0, none⟩)] 45) = x := ⟨_, rfl⟩
  obtain ⟨b, hb⟩ : ∃ g, w1.heap.size = g := ⟨_, rfl⟩
  obtain ⟨w2, hw2⟩ : ∃ x, w1.alloc (.map #[] 0) = x := ⟨_, rfl⟩
  obtain ⟨gu, hgu⟩ : ∃ g, w2.heap.size = g := ⟨_, rfl⟩
  obtain ⟨w3, hw3⟩ : ∃ x, w2.alloc (.cells #[.map (some b)] 234) = x := ⟨_, rfl⟩
  have hb1 : Below w.heap.size w w1 := by rw [← hw1]; exact (Below.refl _ _).alloc (Nat.le_refl _) _
  have hb2 : Below w1.heap.size w1 w2 := by rw [← hw2]; exact (Below.refl _ _).alloc (Nat.le_refl _) _
  have hb3 : Below w2.heap.size w2 w3 := by rw [← hw3]; exact (Below.refl _ _).alloc (Nat.le_refl _) _
  have B1 : Blk w1 gt 45 [.pointer (some ⟨E.gT, 0, none⟩)] := by rw [← hw1, ← hgt]; exact Blk.new w 45 _
  have U2 : UsedAt w2 b 0 [] := by rw [← hw2, ← hb]; exact UsedAt.made w1
  have B3 : Blk w3 gu 234 [.map (some b)] := by rw [← hw3, ← hgu]; exact Blk.new w2 234 _
  have hb23 := hb2.trans (hb3.mono hb2.size)
  have hb13 := hb1.trans (hb23.mono hb1.size)
  have BT3 := B1.below hb23 B1.lt
  have U3 : UsedAt w3 b 0 [] := U2.sp (Only.of_below hb3 (fun _ => False)) id
  have hT3 := (hin.tw.below hb13).tree
  have c0 := BT3.cell 0
  have c1 := B3.cell 0
  simp only [List.getElem?_cons_zero] at c0 c1
  have c4 : w3.cell? ⟨E.gT, 4, none⟩ = some (refO E.m.saved) := hT3.cell 4
  obtain ⟨L, hL⟩ : ∃ L, E.m.saved.isSome = L := ⟨_, rfl⟩
  obtain ⟨sv, hsv⟩ : ∃ v, refO E.m.saved = v := ⟨_, rfl⟩
  have hbop : ∀ W : World, (binOp BinOp.neq 156 sv (.pointer none)).run Tryz.prog W = .ok (.bool L) W := fun W => by
    rw [← hsv, ← hL]
    cases E.m.saved <;> simp [refO, refV, go_sem]
  have hgrd : ∀ W : World, (eqGuard BinOp.neq 156 (Operand.tmp 10) (Operand.const (Value.pointer none)) sv (.pointer none)).run Tryz.prog W = .ok () W := fun W => by
    rw [← hsv]
    cases E.m.saved <;> simp [refO, refV, go_sem]
  rw [hsv] at c4
  have HL := Lib.hid hL
  have HSV := Lib.hid hsv
  have HIN := Lib.hid hin
  have HLB : Hid (LO ≤ b) := by rw [Hid, ← hb]; exact Nat.le_trans hin.tw.base hb1.size
  clear hin hL hsv
  go_enter Tryz.func81, Tryz.ntmps81
  go_upto_if 11 with fail
  go_cut [] from 12 (fun wx => ∃ G1 rd1, Hid (TW E wx rd1 G1) ∧ Hid (Ext G G1) ∧ Hid (UFr w3 wx) ∧ Hid (RdK js.length rd rd1) ∧ Hid (UsedAt wx b js.length js))
  case first =>
    rcases HIN.out.saved with ⟨g1, g2, g3⟩ | ⟨rs, hs, ts, ss, v, g1, g2, g3, g4, g5, g6, g7, g8⟩
    · have hLf : L = false := by rw [← HL.out, g1]; rfl
      subst hLf
      have H := Lib.hid (And.intro (HIN.out.tw.below hb13) (show UsedAt w3 b js.length js by rw [g2]; exact U3))
      go_wp2_with fail
      go_meet
      case rel => exact ⟨G, rd, H.out.1, Ext.refl G, UFr.of_below (Below.refl _ _), RdK.refl _ _, H.out.2⟩
    · have hLt : L = true := by rw [← HL.out, g1]; rfl
      subst hLt
      have hsv' : sv = .pointer (some ⟨rs, 0, none⟩) := by rw [← HSV.out, g1]; rfl
      subst hsv'
      have hev3 := HIN.out.ev.tfr (TFr.of_below hb13)
      have C0 := Lib.hid (And.intro c4 (And.intro hev3.1 (And.intro hev3.2.1 (And.intro hev3.2.2 c1))))
      have D0 := Lib.hid c0
      have hbd : Below w3.heap.size w3 w3.drew := (Below.refl _ _).drew
      have hbd' := hbd
      have hus := used_any E b HLB.out HIN.out.n hs ts ss rs 0 [] none w3.drew rd G [] ((HIN.out.tw.below hb13).below hbd) g2 g3.1 g3.2 (by omega) ⟨v, (g5.below hb13 g5.lt).below hbd (g5.below hb13 g5.lt).lt⟩ g6 (by have := HIN.out.len; rw [g7] at this; simp; omega) (U3.sp (Only.of_below hbd (fun _ => False)) id)
      rw [List.nil_append, ← g7, show spanV [] none = .agg #[.string (tstr []), .string (tstr []), .bool true] from rfl] at hus
      unfold refV at hus
      have HUS := Lib.hid hus
      have BT := Lib.hid BT3
      clear g1 g2 g3 g4 g5 g6 g7 g8 hev3 hbd hus hbop hgrd
      go_wp2_with fail
      refine wp_region_L 7 (fun W => W.cell? ⟨E.gT, 4, none⟩ = some (.pointer (some ⟨rs, 0, none⟩)) ∧ W.cell? ⟨0, 0, none⟩ = some (.string (tstr [])) ∧ W.cell? ⟨0, 1, none⟩ = some (.string (tstr [])) ∧ W.cell? ⟨0, 2, none⟩ = some (.bool true) ∧ W.cell? ⟨gu, 0, none⟩ = some (.map (some b))) (fun W => W.cell? ⟨gt, 0, none⟩ = some (.pointer (some ⟨E.gT, 0, none⟩))) (by kernel_rfl) C0.out D0.out (fun hTill => ?_)
      refine wpL_take' (i := 0) (oi := _) (v := ?_) rfl (by kernel_rfl) (by kernel_rfl) (by kernel_rfl) (by kernel_rfl) (fun _ _ _ h => h) (.inl ⟨by rfl, ?_⟩) (by assumption) ?_
      rotate_left
      · intro W hSw
        (try dsimp only at hSw)
        go_simp
        (try rfl)
      (try simp only [Act.put, List.getElem_toArray, List.getElem_cons_succ, List.getElem_cons_zero, List.setIfInBounds_toArray, List.set_cons_zero, List.set_cons_succ])
      refine wpL_take' (i := 1) (oi := _) (v := ?_) rfl (by kernel_rfl) (by kernel_rfl) (by kernel_rfl) (by kernel_rfl) (fun _ _ _ h => h) (.inl ⟨by rfl, ?_⟩) (by assumption) ?_
      rotate_left
      · intro W hSw
        (try dsimp only at hSw)
        go_simp
        (try rfl)
      (try simp only [Act.put, List.getElem_toArray, List.getElem_cons_succ, List.getElem_cons_zero, List.setIfInBounds_toArray, List.set_cons_zero, List.set_cons_succ])
      refine wpL_take' (i := 2) (oi := _) (v := ?_) rfl (by kernel_rfl) (by kernel_rfl) (by kernel_rfl) (by kernel_rfl) (fun _ _ _ h => h) (.inl ⟨by rfl, ?_⟩) (by assumption) ?_
      rotate_left
      · intro W hSw
        (try dsimp only at hSw)
        go_simp
        (try rfl)
      (try simp only [Act.put, List.getElem_toArray, List.getElem_cons_succ, List.getElem_cons_zero, List.setIfInBounds_toArray, List.set_cons_zero, List.set_cons_succ])
      refine wpL_take' (i := 3) (oi := _) (v := ?_) rfl (by kernel_rfl) (by kernel_rfl) (by kernel_rfl) (by kernel_rfl) (fun _ _ _ h => h) (.inl ⟨by rfl, ?_⟩) (by assumption) ?_
      rotate_left
      · intro W hSw
        (try dsimp only at hSw)
        go_simp
        (try rfl)
      (try simp only [Act.put, List.getElem_toArray, List.getElem_cons_succ, List.getElem_cons_zero, List.setIfInBounds_toArray, List.set_cons_zero, List.set_cons_succ])
      refine wpL_take (i := 4) (oi := _) (v := ?_) rfl (by kernel_rfl) (by kernel_rfl) (by kernel_rfl) (by kernel_rfl) (fun _ _ _ h => h) (.inl ⟨by rfl, ?_⟩) (by assumption) ?_
      rotate_left
      · intro W hSw
        (try dsimp only at hSw)
        go_simp
        (try rfl)
      (try simp only [Act.put, List.getElem_toArray, List.getElem_cons_succ, List.getElem_cons_zero, List.setIfInBounds_toArray, List.set_cons_zero, List.set_cons_succ])
      refine wpL_take (i := 5) (oi := _) (v := ?_) rfl (by kernel_rfl) (by kernel_rfl) (by kernel_rfl) (by kernel_rfl) (fun _ _ _ h => h) (.inl ⟨by rfl, ?_⟩) (by assumption) ?_
      rotate_left
      · intro W hSw
        (try dsimp only at hSw)
        go_simp
        (try rfl)
      (try simp only [Act.put, List.getElem_toArray, List.getElem_cons_succ, List.getElem_cons_zero, List.setIfInBounds_toArray, List.set_cons_zero, List.set_cons_succ])
      refine wpL_take (i := 6) (oi := _) (v := ?_) rfl (by kernel_rfl) (by kernel_rfl) (by kernel_rfl) (by kernel_rfl) (fun _ _ _ h => h) (.inl ⟨by rfl, ?_⟩) (by assumption) ?_
      rotate_left
      · intro W hSw
        (try dsimp only at hSw)
        go_simp
        (try rfl)
      (try simp only [Act.put, List.getElem_toArray, List.getElem_cons_succ, List.getElem_cons_zero, List.setIfInBounds_toArray, List.set_cons_zero, List.set_cons_succ])
      refine wpL_ready (rs := [7]) (by kernel_rfl) (by simp) ?_
      refine AllL.cons (o := _) rfl (fun K hK => ?_) AllL.nil
      go_simp
      refine HUS.out.mono ?_
      rintro e w5 h5
      rcases h5 with ⟨G5, rd5, rfl, hW5, hE5, hF5, hR5, hU5⟩ | ⟨hal, rfl, ⟨rd5, hd5⟩, hF5⟩
      rotate_left
      · have UF5 : UFr w w5 := (UFr.of_below (hb13.trans (hbd'.mono hb13.size))).trans hF5
        have HX : Hid (SvPost E rd G h t js w (tdied 3) w5) := ⟨UF5.1.mono (by simp [saveT2, saveT]), UF5.gk, .inl ⟨rfl, UF5.1.blk HIN.out.tw.tree (by decide), [], E.d, rd5, (fun c hc => by cases hc), .inl ⟨hal, rfl⟩, hd5⟩⟩
        clear hal hd5 hF5 UF5
        unfold tdied
        go_wp2_with fail
        exact ⟨rfl, HX.out⟩
      have HW5 := Lib.hid hW5
      have HE5 := Lib.hid hE5
      have HF5 : Hid (UFr w3 w5) := (UFr.of_below ((Below.refl w3.heap.size w3).drew)).trans hF5
      have HR5 := Lib.hid hR5
      have HU5 := Lib.hid hU5
      have D1 := Lib.hid ((HF5.out.1.blk BT.out (by decide)).cell 0)
      clear hW5 hE5 hF5 hR5 hU5
      go_wp2_with fail
      refine hK.out _ _ ⟨fun h => Bool.noConfusion ((show _ = true by kernel_rfl).symm.trans h), D1.out⟩ (fun hTill => ?_)
      clear hK K
      (try simp only [Act.put, List.getElem_toArray, List.getElem_cons_succ, List.getElem_cons_zero, List.setIfInBounds_toArray, List.set_cons_zero, List.set_cons_succ])
      refine wpL_done (by kernel_rfl) ?_ _
      clear hTill
      go_wp2_with fail
      go_meet
      case rel => exact ⟨G5, rd5, HW5.out, HE5.out, HF5.out, HR5.out, HU5.out⟩
  case rest =>
    obtain ⟨G1, rd1, HW1, HE1, HF1, HR1, HU1⟩ := hcut
    clear hbop hgrd hT3 U3 c0 c1 c4 hb1 hb2 hb3 hb23 HL HSV
    obtain ⟨gx, hgx⟩ : ∃ g, wc.heap.size = g := ⟨_, rfl⟩
    obtain ⟨w4, hw4⟩ : ∃ x, wc.alloc (.cells #[.int .i64 2] 3) = x := ⟨_, rfl⟩
    have hb4 : Below wc.heap.size wc w4 := by rw [← hw4]; exact (Below.refl _ _).alloc (Nat.le_refl _) _
    have hb4d : Below w4.heap.size w4 w4.drew := (Below.refl _ _).drew
    have BX4 : Blk w4 gx 3 [.int .i64 2] := by rw [← hw4, ← hgx]; exact Blk.new wc 3 _
    have BT1 := HF1.out.1.blk BT3 (by decide)
    have BU1 := HF1.out.1.blk B3 (by decide)
    have BT4 := BT1.below hb4 BT1.lt
    have BU4 := BU1.below hb4 BU1.lt
    have hbd4 := hb4.trans (hb4d.mono hb4.size)
    have U4 : UsedAt w4.drew b js.length js := HU1.out.sp (Only.of_below hbd4 (fun _ => False)) id
    have hW4 := HW1.out.below hbd4
    have hT4 := (HW1.out.below hb4).tree
    have UF : UFr w w4.drew := ((UFr.of_below hb13).trans HF1.out).trans (UFr.of_below hbd4)
    have hFR := FrN.u (fun v pg h => UF.1.pg h (by decide)) UF.2.1 h t E.m.root fr HIN.out.fresh
    have hset := settle_any E gu gx gt b js HIN.out.n h t E.m.root fr 2 w4.drew rd1 G1 E.d E.S hW4 (HE1.out _ _ HIN.out.root) HIN.out.ok.1 hFR ⟨BU4.below hb4d BU4.lt, BX4.below hb4d BX4.lt, BT4.below hb4d BT4.lt, U4, by rw [← hgx]; exact HW1.out.base⟩ HIN.out.room (Nat.le_refl _) (fun j hj => .inl (HIN.out.S j hj))
    unfold refV at hset
    have C4 : Hid (w4.cell? ⟨E.gT, 3, none⟩ = some (.pointer (some ⟨E.m.root, 0, none⟩))) := hT4.cell 3
    have D4 : Hid (w4.cell? ⟨gt, 0, none⟩ = some (.pointer (some ⟨E.gT, 0, none⟩))) := BT4.cell 0
    have HSET := Lib.hid hset
    have HUF := Lib.hid UF
    have HT4 : Hid (TmAt w4.drew E.gT E.m) := hW4.tree
    have HBT4 := Lib.hid (BT4.below hb4d BT4.lt)
    have c0 := C4.out
    have d0 := D4.out
    obtain ⟨rt, hrt⟩ : ∃ r, E.m.root = r := ⟨_, rfl⟩
    have HRT := Lib.hid hrt
    rw [hrt] at c0 C4 HSET
    clear hb4 hb4d BX4 BT1 BU1 BT4 BU4 hbd4 U4 hW4 hT4 UF hFR hset BT3 B3 hb13 HF1 HU1 hrt
    go_wp2_with fail
    clear c0 d0
    refine wp_region_L 6 (fun W => W.cell? ⟨E.gT, 3, none⟩ = some (.pointer (some ⟨rt, 0, none⟩))) (fun W => W.cell? ⟨gt, 0, none⟩ = some (.pointer (some ⟨E.gT, 0, none⟩))) (by kernel_rfl) C4.out D4.out (fun hTill => ?_)
    refine wpL_take' (i := 0) (oi := _) (v := ?_) rfl (by kernel_rfl) (by kernel_rfl) (by kernel_rfl) (by kernel_rfl) (fun _ _ _ h => h) (.inl ⟨by rfl, ?_⟩) (by assumption) ?_
    rotate_left
    · intro W hSw
      (try dsimp only at hSw)
      go_simp
      (try rfl)
    (try simp only [Act.put, List.getElem_toArray, List.getElem_cons_succ, List.getElem_cons_zero, List.setIfInBounds_toArray, List.set_cons_zero, List.set_cons_succ])
    refine wpL_take' (i := 1) (oi := _) (v := ?_) rfl (by kernel_rfl) (by kernel_rfl) (by kernel_rfl) (by kernel_rfl) (fun _ _ _ h => h) (.inl ⟨by rfl, ?_⟩) (by assumption) ?_
    rotate_left
    · intro W hSw
      (try dsimp only at hSw)
      go_simp
      (try rfl)
    (try simp only [Act.put, List.getElem_toArray, List.getElem_cons_succ, List.getElem_cons_zero, List.setIfInBounds_toArray, List.set_cons_zero, List.set_cons_succ])
    refine wpL_take' (i := 2) (oi := _) (v := ?_) rfl (by kernel_rfl) (by kernel_rfl) (by kernel_rfl) (by kernel_rfl) (fun _ _ _ h => h) (.inl ⟨by rfl, ?_⟩) (by assumption) ?_
    rotate_left
    · intro W hSw
      (try dsimp only at hSw)
      go_simp
      (try rfl)
    (try simp only [Act.put, List.getElem_toArray, List.getElem_cons_succ, List.getElem_cons_zero, List.setIfInBounds_toArray, List.set_cons_zero, List.set_cons_succ])
    refine wpL_take' (i := 3) (oi := _) (v := ?_) rfl (by kernel_rfl) (by kernel_rfl) (by kernel_rfl) (by kernel_rfl) (fun _ _ _ h => h) (.inl ⟨by rfl, ?_⟩) (by assumption) ?_
    rotate_left
    · intro W hSw
      (try dsimp only at hSw)
      go_simp
      (try rfl)
    (try simp only [Act.put, List.getElem_toArray, List.getElem_cons_succ, List.getElem_cons_zero, List.setIfInBounds_toArray, List.set_cons_zero, List.set_cons_succ])
    refine wpL_take (i := 4) (oi := _) (v := ?_) rfl (by kernel_rfl) (by kernel_rfl) (by kernel_rfl) (by kernel_rfl) (fun _ _ _ h => h) (.inl ⟨by rfl, ?_⟩) (by assumption) ?_
    rotate_left
    · intro W hSw
      (try dsimp only at hSw)
      go_simp
      (try rfl)
    (try simp only [Act.put, List.getElem_toArray, List.getElem_cons_succ, List.getElem_cons_zero, List.setIfInBounds_toArray, List.set_cons_zero, List.set_cons_succ])
    refine wpL_take' (i := 5) (oi := _) (v := ?_) rfl (by kernel_rfl) (by kernel_rfl) (by kernel_rfl) (by kernel_rfl) (fun _ _ _ h => h) (.inl ⟨by rfl, ?_⟩) (by assumption) ?_
    rotate_left
    · intro W hSw
      (try dsimp only at hSw)
      go_simp
      (try rfl)
    (try simp only [Act.put, List.getElem_toArray, List.getElem_cons_succ, List.getElem_cons_zero, List.setIfInBounds_toArray, List.set_cons_zero, List.set_cons_succ])
    refine wpL_ready (rs := [6]) (by kernel_rfl) (by simp) ?_
    refine AllL.cons (o := _) rfl (fun K hK => ?_) AllL.nil
    go_simp
    refine HSET.out.mono ?_
    rintro e w5 h5
    rcases h5 with ⟨d5, S5, nx5, rfl, hW5, hA5, _, _, hs5, hr5, _, hg5, ⟨a5, v5, ha5, hn5⟩, ⟨l, hl5, hd5⟩, hc5, _⟩ | ⟨rfl, ⟨d5, ⟨l, hl5, hd5⟩, hk5⟩, hs5, hg5⟩
    rotate_left
    · have HX : Hid (SvPost E rd G h t js w (tdied 3) w5) := ⟨(HUF.out.1.mono (by simp [saveT2, saveT])).trans (hs5.mono (by simp [saveT2, saveT])), HUF.out.gk.trans hg5, .inl ⟨rfl, hs5.blk HT4.out (by decide), l, d5, rd1, FreeW.of_wrote hl5, .inr hd5, hk5⟩⟩
      clear hl5 hd5 hk5 hs5 hg5
      unfold tdied
      go_wp2_with fail
      exact ⟨rfl, HX.out⟩
    have hBT5 := hs5.blk HBT4.out (by decide)
    have HF5 : Hid (SFr saveT2 w w5) := (HUF.out.1.mono (by simp [saveT2, saveT])).trans (hs5.mono (by simp [saveT2, saveT]))
    have HG5 : Hid (Gk w w5) := HUF.out.gk.trans hg5
    have HBT5 := Lib.hid hBT5
    have D5 : Hid (w5.cell? ⟨gt, 0, none⟩ = some (.pointer (some ⟨E.gT, 0, none⟩))) := hBT5.cell 0
    have HSY := Lib.hid (tsync_any E.gT E.m E.vD d5 rd1 w5 hW5.tree hW5.disk)
    have HW5 := Lib.hid hW5
    have HL5 := Lib.hid (FreeW.of_wrote hl5)
    have HD5 := Lib.hid hd5
    have HA5 : Hid (RefAt w5 E.m.root a5 v5 ∧ a5 ≠ 0) := by rw [Hid, HRT.out]; exact ⟨ha5, hn5⟩
    clear hW5 hA5 hs5 hr5 hg5 ha5 hn5 hl5 hd5 hBT5
    go_wp2_with fail
    refine hK.out _ _ ⟨fun h => Bool.noConfusion ((show _ = true by kernel_rfl).symm.trans h), D5.out⟩ (fun hTill => ?_)
    clear hK K
    (try simp only [Act.put, List.getElem_toArray, List.getElem_cons_succ, List.getElem_cons_zero, List.setIfInBounds_toArray, List.set_cons_zero, List.set_cons_succ])
    refine wpL_done (by kernel_rfl) ?_ _
    clear hTill
    have d0 := D5.out
    go_wp2_with fail
    refine HSY.out.mono ?_
    rintro e w6 ⟨hend, hd6, ho6⟩
    have HGD6 : Hid (Gk w w6) := HG5.out.trans (Gk.of_disk HW5.out.disk (by have h1 : E.m.first + E.m.n ≤ d5.secs.length := HW5.out.room; have h2 : fr + E.m.pages + 2 ≤ E.m.n := HIN.out.fit; show 0 < d5.secs.length; omega) HW5.out.low.d ho6)
    have HFD6 : Hid (SFr saveT2 w w6) := HF5.out.trans ⟨_, ho6, HW5.out.disk.kinds.spare.mono (by simp [saveT2, saveT])⟩
    have HBT6 := Lib.hid (ho6.blk_ HW5.out.disk.kinds HBT5.out (by decide))
    have HT6 : Hid (TmAt w6 E.gT E.m) := ho6.blk_ HW5.out.disk.kinds HW5.out.tree (by decide)
    rcases hend with ⟨hal, rfl⟩ | ⟨hal, rfl⟩
    rotate_left
    · have HX : Hid (SvPost E rd G h t js w (tdied 3) w6) := ⟨HFD6.out, HGD6.out, .inl ⟨rfl, HT6.out, l ++ [.sy], _, rd1, HL5.out.sy, .inr (by rw [run_snoc HD5.out, hal]), hd6⟩⟩
      clear hal hd6 ho6 d0
      unfold tdied
      go_wp2_with fail
      exact ⟨rfl, HX.out⟩
    obtain ⟨d6, hd6e⟩ : ∃ x, d5.change .sy = x := ⟨_, rfl⟩
    have HRUN : Hid (E.d.run (l ++ [.sy]) = (d6, true)) := by rw [Hid, run_snoc HD5.out, hal, hd6e]
    have HLIFE : Hid (d6.life ≠ 0) := by rw [Hid, ← hd6e]; exact live_change hal _
    have hW6 : TW (E.at_ d6 S5) w6 rd1 G1 := HW5.out.dk (by rw [← hd6e]; exact hd6) ho6 (fun j _ => by rw [← hd6e, look_sync]) (by rw [← hd6e, tchange_length])
    obtain ⟨s, v, hrs, hOs, hSs⟩ : ∃ s v, RefAt w6 E.m.root (Pl.top h s) v ∧ Pl.OnD (fun j => d6.look (E.m.first + j)) E.m.n h s t ∧ ∀ j ∈ Pl.secsOf h s, j ∈ S5 := by
      rcases hW6.inv E.m.root h t (HE1.out _ _ HIN.out.root) with ⟨u, k1, _⟩ | ⟨s, u, k1, k2, k3, _⟩
      · have := ho6.blk_ HW5.out.disk.kinds HA5.out.1 (by decide)
        exact absurd (RefAt.uniq this k1).1 HA5.out.2
      · exact ⟨s, u, k1, k2, k3⟩
    clear hd6 ho6 d0 hal hd6e
    obtain ⟨b2, hb2⟩ : ∃ g, w6.heap.size = g := ⟨_, rfl⟩
    obtain ⟨w7, hw7⟩ : ∃ x, w6.alloc (.map #[] 0) = x := ⟨_, rfl⟩
    have hb7 : Below w6.heap.size w6 w7 := by rw [← hw7]; exact (Below.refl _ _).alloc (Nat.le_refl _) _
    have hb7d : Below w6.heap.size w6 w7.drew := hb7.drew
    have U7 : UsedAt w7 b2 0 [] := by rw [← hw7, ← hb2]; exact UsedAt.made w6
    have U7d : UsedAt w7.drew b2 0 [] := U7.sp (Only.of_below ((Below.refl _ _).drew) (fun _ => False)) id
    have hsl : (Pl.secsOf h s).length = Pl.pgs h t := Pl.secs_len h s t hOs
    have hus := used_any (E.at_ d6 S5) b2 (by rw [← hb2]; exact hW6.base) HIN.out.n h t s E.m.root 0 [] none w7.drew rd1 G1 [] (hW6.below hb7d) (HE1.out _ _ HIN.out.root) HIN.out.ok.1 HIN.out.ok.2 (by have := HIN.out.hh; omega) ⟨v, hrs.below hb7d hrs.lt⟩ hOs (by have := HIN.out.pg; rw [hsl]; simp; omega) U7d
    rw [List.nil_append, show spanV [] none = .agg #[.string (tstr []), .string (tstr []), .bool true] from rfl] at hus
    unfold refV at hus
    rw [HRT.out] at hus
    have HUS := Lib.hid hus
    have HOS := Lib.hid hOs
    have HSS := Lib.hid hSs
    have HSL := Lib.hid hsl
    have HF7 : Hid (SFr saveT2 w w7.drew) := HFD6.out.trans (SFr.of_below hb7d)
    have HG7 : Hid (Gk w w7.drew) := HGD6.out.trans (Gk.of_below hb7d)
    have hev7 := HG7.out.1 HIN.out.ev
    have HBT7 := Lib.hid (HBT6.out.below hb7d HBT6.out.lt)
    have hc3 : w7.cell? ⟨E.gT, 3, none⟩ = some (.pointer (some ⟨rt, 0, none⟩)) := by rw [← HRT.out]; exact (HT6.out.below hb7 HT6.out.lt).cell 3
    have C7 := Lib.hid (And.intro hc3 hev7)
    have D7 : Hid (w7.cell? ⟨gt, 0, none⟩ = some (.pointer (some ⟨E.gT, 0, none⟩))) := (HBT6.out.below hb7 HBT6.out.lt).cell 0
    have HRS7 := Lib.hid (hrs.below hb7d hrs.lt)
    have hmm6 := hmm
    clear hus hOs hSs hsl hc3 hev7 hb7 hb7d U7 U7d hW6 hrs
    go_wp2_with fail
    refine wp_region_L 7 (fun W => W.cell? ⟨E.gT, 3, none⟩ = some (.pointer (some ⟨rt, 0, none⟩)) ∧ W.cell? ⟨0, 0, none⟩ = some (.string (tstr [])) ∧ W.cell? ⟨0, 1, none⟩ = some (.string (tstr [])) ∧ W.cell? ⟨0, 2, none⟩ = some (.bool true)) (fun W => W.cell? ⟨gt, 0, none⟩ = some (.pointer (some ⟨E.gT, 0, none⟩))) (by kernel_rfl) C7.out D7.out (fun hTill => ?_)
    refine wpL_take' (i := 0) (oi := _) (v := ?_) rfl (by kernel_rfl) (by kernel_rfl) (by kernel_rfl) (by kernel_rfl) (fun _ _ _ h => h) (.inl ⟨by rfl, ?_⟩) (by assumption) ?_
    rotate_left
    · intro W hSw
      (try dsimp only at hSw)
      go_simp
      (try rfl)
    (try simp only [Act.put, List.getElem_toArray, List.getElem_cons_succ, List.getElem_cons_zero, List.setIfInBounds_toArray, List.set_cons_zero, List.set_cons_succ])
    refine wpL_take' (i := 1) (oi := _) (v := ?_) rfl (by kernel_rfl) (by kernel_rfl) (by kernel_rfl) (by kernel_rfl) (fun _ _ _ h => h) (.inl ⟨by rfl, ?_⟩) (by assumption) ?_
    rotate_left
    · intro W hSw
      (try dsimp only at hSw)
      go_simp
      (try rfl)
    (try simp only [Act.put, List.getElem_toArray, List.getElem_cons_succ, List.getElem_cons_zero, List.setIfInBounds_toArray, List.set_cons_zero, List.set_cons_succ])
    refine wpL_take' (i := 2) (oi := _) (v := ?_) rfl (by kernel_rfl) (by kernel_rfl) (by kernel_rfl) (by kernel_rfl) (fun _ _ _ h => h) (.inl ⟨by rfl, ?_⟩) (by assumption) ?_
    rotate_left
    · intro W hSw
      (try dsimp only at hSw)
      go_simp
      (try rfl)
    (try simp only [Act.put, List.getElem_toArray, List.getElem_cons_succ, List.getElem_cons_zero, List.setIfInBounds_toArray, List.set_cons_zero, List.set_cons_succ])
    refine wpL_take' (i := 3) (oi := _) (v := ?_) rfl (by kernel_rfl) (by kernel_rfl) (by kernel_rfl) (by kernel_rfl) (fun _ _ _ h => h) (.inl ⟨by rfl, ?_⟩) (by assumption) ?_
    rotate_left
    · intro W hSw
      (try dsimp only at hSw)
      go_simp
      (try rfl)
    (try simp only [Act.put, List.getElem_toArray, List.getElem_cons_succ, List.getElem_cons_zero, List.setIfInBounds_toArray, List.set_cons_zero, List.set_cons_succ])
    refine wpL_take (i := 4) (oi := _) (v := ?_) rfl (by kernel_rfl) (by kernel_rfl) (by kernel_rfl) (by kernel_rfl) (fun _ _ _ h => h) (.inl ⟨by rfl, ?_⟩) (by assumption) ?_
    rotate_left
    · intro W hSw
      (try dsimp only at hSw)
      go_simp
      (try rfl)
    (try simp only [Act.put, List.getElem_toArray, List.getElem_cons_succ, List.getElem_cons_zero, List.setIfInBounds_toArray, List.set_cons_zero, List.set_cons_succ])
    refine wpL_take (i := 5) (oi := _) (v := ?_) rfl (by kernel_rfl) (by kernel_rfl) (by kernel_rfl) (by kernel_rfl) (fun _ _ _ h => h) (.inl ⟨by rfl, ?_⟩) (by assumption) ?_
    rotate_left
    · intro W hSw
      (try dsimp only at hSw)
      go_simp
      (try rfl)
    (try simp only [Act.put, List.getElem_toArray, List.getElem_cons_succ, List.getElem_cons_zero, List.setIfInBounds_toArray, List.set_cons_zero, List.set_cons_succ])
    refine wpL_take' (i := 6) (oi := _) (v := ?_) rfl (by kernel_rfl) (by kernel_rfl) (by kernel_rfl) (by kernel_rfl) (fun _ _ _ h => h) (.inl ⟨by rfl, ?_⟩) (by assumption) ?_
    rotate_left
    · intro W hSw
      (try dsimp only at hSw)
      go_simp
      (try rfl)
    (try simp only [Act.put, List.getElem_toArray, List.getElem_cons_succ, List.getElem_cons_zero, List.setIfInBounds_toArray, List.set_cons_zero, List.set_cons_succ])
    refine wpL_ready (rs := [7]) (by kernel_rfl) (by simp) ?_
    refine AllL.cons (o := _) rfl (fun K hK => ?_) AllL.nil
    go_simp
    refine HUS.out.mono ?_
    rintro e w8 h8
    rcases h8 with ⟨G2, rd2, rfl, hW8, hE8, hF8, hR8, hU8⟩ | ⟨hal, _⟩
    rotate_left
    · exact absurd hal HLIFE.out
    obtain ⟨q, hq⟩ : ∃ q, E.m.seq + 1 = q := ⟨_, rfl⟩
    have hqi : (E.m.seq : Int) + 1 = (q : Int) := by omega
    have hwq : IntKind.u64.wrap ((E.m.seq : Int) + 1) = (q : Int) := by rw [hqi]; exact IntWalk.u64_in _ (by have := HIN.out.seq; omega)
    have hq64 : q < 18446744073709551616 := by have := HIN.out.seq; omega
    obtain ⟨tp, htp⟩ : ∃ x, Pl.top h s = x := ⟨_, rfl⟩
    obtain ⟨pc, hpc⟩ : ∃ x, Pl.dcount E.m.n (Pl.secsOf h s) = x := ⟨_, rfl⟩
    have hbd8 := HOS.out.bounds
    have hn8 := HIN.out.n
    have htl : tp ≤ 4096 := by rw [← htp]; omega
    have hpl : pc ≤ 4096 := by rw [← hpc]; exact Nat.le_trans (Pl.dcount_le _ _) hn8
    have hwt : IntKind.u64.wrap (tp : Int) = (tp : Int) := IntWalk.u64_in _ (by omega)
    have hwp : IntKind.u64.wrap (pc : Int) = (pc : Int) := IntWalk.u64_in _ (by omega)
    have hT8 := hW8.tree
    have hBT8 := hF8.1.blk HBT7.out (by decide)
    have HF8 : Hid (SFr saveT2 w w8) := HF7.out.trans (hF8.1.mono (by simp [saveT2, saveT]))
    have HG8 : Hid (Gk w w8) := HG7.out.trans hF8.gk
    obtain ⟨v8, hv8, _⟩ := hF8.2.1 _ _ _ HRS7.out
    rw [htp, HRT.out] at hv8
    have HW8 := Lib.hid hW8
    have HE8 := Lib.hid hE8
    have HR8 := Lib.hid hR8
    have HU8 := Lib.hid hU8
    have HBT8 := Lib.hid hBT8
    have HRS8 := Lib.hid hv8
    have D8 : Hid (w8.cell? ⟨gt, 0, none⟩ = some (.pointer (some ⟨E.gT, 0, none⟩))) := hBT8.cell 0
    have HQ := Lib.hid hq
    have HTP := Lib.hid htp
    have HPC := Lib.hid hpc
    obtain ⟨w9, hw9⟩ : ∃ x, w8.alloc (.cells #[.int .u8 84] 5 (1, 2)) = x := ⟨_, rfl⟩
    have hb9 : Below w8.heap.size w8 w9 := by rw [← hw9]; exact (Below.refl _ _).alloc (Nat.le_refl _) _
    have hrd : Ready w9 w8.heap.size 5 1 (.slice (some ⟨w8.heap.size, 0, none⟩) 1 1) 1 (bv [84]) := by rw [← hw9]; exact ready_lit w8 84 (by omega)
    have HPUT := Lib.hid (put_any (.slice (some ⟨w8.heap.size, 0, none⟩) 1 1) 1 [84] q 8 w8.heap.size w9 hrd hb9.size hq64 (by omega) (by omega) (by omega))
    have hm := run_mark (P := Tryz.prog) w8 25 5 #[.int .u8 84] 1 Tryz.underlying25 Tryz.underlying5 rfl
    rw [hw9] at hm
    have hc5 : w9.cell? ⟨E.gT, 5, none⟩ = some (.int .u64 (E.m.seq : Nat)) := (hT8.below hb9 hT8.lt).cell 5
    have d9 : w9.cell? ⟨gt, 0, none⟩ = some (.pointer (some ⟨E.gT, 0, none⟩)) := (hBT8.below hb9 hBT8.lt).cell 0
    have HB9 := Lib.hid hb9
    clear hW8 hE8 hF8 hR8 hU8 hT8 hBT8 hv8 hq htp hpc hbd8 hb9 hrd
    go_wp2_with fail
    refine hK.out _ _ ⟨fun h => Bool.noConfusion ((show _ = true by kernel_rfl).symm.trans h), D8.out⟩ (fun hTill => ?_)
    clear hK K
    (try simp only [Act.put, List.getElem_toArray, List.getElem_cons_succ, List.getElem_cons_zero, List.setIfInBounds_toArray, List.set_cons_zero, List.set_cons_succ])
    refine wpL_done (by kernel_rfl) ?_ _
    clear hTill
    go_wp2_with fail
    refine HPUT.out.mono ?_
    rintro e w10 ⟨v1, rfl, hown1, hb10, _⟩
    have HB10 : Hid (Below w8.heap.size w8 w10) := HB9.out.trans hb10
    have HO1 := Lib.hid hown1
    have d10 : w10.cell? ⟨gt, 0, none⟩ = some (.pointer (some ⟨E.gT, 0, none⟩)) := (HBT8.out.below HB10.out HBT8.out.lt).cell 0
    have hc3 : w10.cell? ⟨E.gT, 3, none⟩ = some (.pointer (some ⟨rt, 0, none⟩)) := by rw [← HRT.out]; exact (HW8.out.tree.below HB10.out HW8.out.tree.lt).cell 3
    have hcr : w10.cell? ⟨rt, 0, none⟩ = some (.int .i64 (tp : Nat)) := (HRS8.out.below HB10.out HRS8.out.lt).cell 0
    clear hown1 hb10 hc5 d9 hm hwq
    go_wp2_with fail
    refine (put_any v1 9 ([84] ++ Pl.be 8 q) tp 4 w8.heap.size w10 (.own HO1.out) HB10.out.size (by omega) (by omega) (by omega) (by omega)).mono ?_
    rintro e w11 ⟨v2, rfl, hown2, hb11, _⟩
    have HB11 : Hid (Below w8.heap.size w8 w11) := HB10.out.trans hb11
    have HO2 := Lib.hid hown2
    have hlen : ∀ ty, (Builtin.len_ #[234] ty #[.map (some b2)]).run Tryz.prog w11 = .ok (.int .i64 (pc : Nat)) w11 := fun ty => by
      rw [← HPC.out]
      exact (HU8.out.sp (Only.of_below HB11.out (fun _ => False)) id).len E.m.n (fun j hj => (HOS.out.all _ _ _ j hj).2.1) ty
    clear hown2 hb11 d10 hc3 hcr
    go_wp2_with fail
    refine (put_any v2 13 ([84] ++ Pl.be 8 q ++ Pl.be 4 tp) pc 4 w8.heap.size w11 (.own HO2.out) HB11.out.size (by omega) (by omega) (by omega) (by omega)).mono ?_
    rintro e w12 ⟨v3, rfl, hown3, hb12, _⟩
    have hb12' : Below w8.heap.size w8 w12 := HB11.out.trans hb12
    have HB12 := Lib.hid hb12'
    have hbd12 : Below w8.heap.size w8 w12.drew := hb12'.drew
    obtain ⟨A3, cap3, rfl, hcap3, hsrc3, _⟩ := own_src hown3
    have hst : ([84] ++ Pl.be 8 q ++ Pl.be 4 tp ++ Pl.be 4 pc : List UInt8) = slotT q tp pc := by simp [slotT]
    have hby : BytesAt w12 A3 (slotT q tp pc) := by rw [← hst]; exact Src.bytes hsrc3
    obtain ⟨qm, hqm⟩ : ∃ x, q % 2 = x := ⟨_, rfl⟩
    have hqm2 : qm < 2 := by omega
    have hqr : (q : Int) % 2 = (qm : Int) := by omega
    have hqt : Int.tmod (q : Int) 2 = (qm : Int) := by rw [Int.tmod_eq_emod_of_nonneg (by omega)]; exact hqr
    have hwm : IntKind.i64.wrap (qm : Int) = (qm : Int) := IntWalk.i64_in _ (by omega)
    have hwm' : IntKind.u64.wrap (qm : Int) = (qm : Int) := IntWalk.u64_in _ (by omega)
    have hwq : IntKind.u64.wrap ((E.m.seq : Int) + 1) = (q : Int) := by rw [hqi]; exact IntWalk.u64_in _ (by omega)
    have hfn : E.m.first + E.m.n ≤ d6.secs.length := HW8.out.room
    have hn16 : fr + E.m.pages + 2 ≤ E.m.n := HIN.out.fit
    have HWR := Lib.hid (twrite_any E.gT E.m E.vD d6 rd2 qm (slotT q tp pc) w12.drew (HW8.out.tree.below hbd12 HW8.out.tree.lt) (HW8.out.disk.below hbd12) (by omega) (by rw [slotT_len]; omega))
    have C12 : Hid (BytesAt w12 A3 (slotT q tp pc)) := hby
    have D12 : Hid (w12.cell? ⟨gt, 0, none⟩ = some (.pointer (some ⟨E.gT, 0, none⟩)) ∧ w12.cell? ⟨E.gT, 5, none⟩ = some (.int .u64 (E.m.seq : Nat))) := ⟨(HBT8.out.below hb12' HBT8.out.lt).cell 0, (HW8.out.tree.below hb12' HW8.out.tree.lt).cell 5⟩
    have HQM := Lib.hid hqm
    have HBD12 := Lib.hid hbd12
    have hcv : ∀ W, BytesAt W A3 (slotT q tp pc) → (convert 25 9 (.slice A3 17 cap3)).run Tryz.prog W = .ok (.string (tstr (slotT q tp pc))) W := fun W hW => by
      have := run_tostr W A3 (slotT q tp pc) cap3 hW
      rwa [slotT_len] at this
    clear hown3 hb12 hb12' hsrc3 hst hby hlen hqm hbd12
    go_wp2_with fail
    refine wp_region_L 10 (fun W => BytesAt W A3 (slotT q tp pc)) (fun W => W.cell? ⟨gt, 0, none⟩ = some (.pointer (some ⟨E.gT, 0, none⟩)) ∧ W.cell? ⟨E.gT, 5, none⟩ = some (.int .u64 (E.m.seq : Nat))) (by kernel_rfl) C12.out D12.out (fun hTill => ?_)
    refine wpL_take' (i := 0) (oi := _) (v := ?_) rfl (by kernel_rfl) (by kernel_rfl) (by kernel_rfl) (by kernel_rfl) (fun _ _ _ h => h) (.inl ⟨by rfl, ?_⟩) (by assumption) ?_
    rotate_left
    · intro W hSw
      (try dsimp only at hSw)
      go_simp
      (try rfl)
    (try simp only [Act.put, List.getElem_toArray, List.getElem_cons_succ, List.getElem_cons_zero, List.setIfInBounds_toArray, List.set_cons_zero, List.set_cons_succ])
    refine wpL_take' (i := 1) (oi := _) (v := ?_) rfl (by kernel_rfl) (by kernel_rfl) (by kernel_rfl) (by kernel_rfl) (fun _ _ _ h => h) (.inl ⟨by rfl, ?_⟩) (by assumption) ?_
    rotate_left
    · intro W hSw
      (try dsimp only at hSw)
      go_simp
      (try rfl)
    (try simp only [Act.put, List.getElem_toArray, List.getElem_cons_succ, List.getElem_cons_zero, List.setIfInBounds_toArray, List.set_cons_zero, List.set_cons_succ])
    refine wpL_take' (i := 2) (oi := _) (v := ?_) rfl (by kernel_rfl) (by kernel_rfl) (by kernel_rfl) (by kernel_rfl) (fun _ _ _ h => h) (.inl ⟨by rfl, ?_⟩) (by assumption) ?_
    rotate_left
    · intro W hSw
      (try dsimp only at hSw)
      go_simp
      (try rfl)
    (try simp only [Act.put, List.getElem_toArray, List.getElem_cons_succ, List.getElem_cons_zero, List.setIfInBounds_toArray, List.set_cons_zero, List.set_cons_succ])
    refine wpL_take' (i := 3) (oi := _) (v := ?_) rfl (by kernel_rfl) (by kernel_rfl) (by kernel_rfl) (by kernel_rfl) (fun _ _ _ h => h) (.inl ⟨by rfl, ?_⟩) (by assumption) ?_
    rotate_left
    · intro W hSw
      (try dsimp only at hSw)
      go_simp
      (try rfl)
    (try simp only [Act.put, List.getElem_toArray, List.getElem_cons_succ, List.getElem_cons_zero, List.setIfInBounds_toArray, List.set_cons_zero, List.set_cons_succ])
    refine wpL_take' (i := 4) (oi := _) (v := ?_) rfl (by kernel_rfl) (by kernel_rfl) (by kernel_rfl) (by kernel_rfl) (fun _ _ _ h => h) (.inl ⟨by rfl, ?_⟩) (by assumption) ?_
    rotate_left
    · intro W hSw
      (try dsimp only at hSw)
      go_simp
      (try rfl)
    (try simp only [Act.put, List.getElem_toArray, List.getElem_cons_succ, List.getElem_cons_zero, List.setIfInBounds_toArray, List.set_cons_zero, List.set_cons_succ])
    refine wpL_take' (i := 5) (oi := _) (v := ?_) rfl (by kernel_rfl) (by kernel_rfl) (by kernel_rfl) (by kernel_rfl) (fun _ _ _ h => h) (.inl ⟨by rfl, ?_⟩) (by assumption) ?_
    rotate_left
    · intro W hSw
      (try dsimp only at hSw)
      go_simp
      (try rfl)
    (try simp only [Act.put, List.getElem_toArray, List.getElem_cons_succ, List.getElem_cons_zero, List.setIfInBounds_toArray, List.set_cons_zero, List.set_cons_succ])
    refine wpL_take' (i := 6) (oi := _) (v := ?_) rfl (by kernel_rfl) (by kernel_rfl) (by kernel_rfl) (by kernel_rfl) (fun _ _ _ h => h) (.inl ⟨by rfl, ?_⟩) (by assumption) ?_
    rotate_left
    · intro W hSw
      (try dsimp only at hSw)
      go_simp
      (try rfl)
    (try simp only [Act.put, List.getElem_toArray, List.getElem_cons_succ, List.getElem_cons_zero, List.setIfInBounds_toArray, List.set_cons_zero, List.set_cons_succ])
    refine wpL_take' (i := 7) (oi := _) (v := ?_) rfl (by kernel_rfl) (by kernel_rfl) (by kernel_rfl) (by kernel_rfl) (fun _ _ _ h => h) (.inl ⟨by rfl, ?_⟩) (by assumption) ?_
    rotate_left
    · intro W hSw
      (try dsimp only at hSw)
      go_simp
      (try rfl)
    (try simp only [Act.put, List.getElem_toArray, List.getElem_cons_succ, List.getElem_cons_zero, List.setIfInBounds_toArray, List.set_cons_zero, List.set_cons_succ])
    refine wpL_take' (i := 8) (oi := _) (v := ?_) rfl (by kernel_rfl) (by kernel_rfl) (by kernel_rfl) (by kernel_rfl) (fun _ _ _ h => h) (.inl ⟨by rfl, ?_⟩) (by assumption) ?_
    rotate_left
    · intro W hSw
      (try dsimp only at hSw)
      go_simp
      (try rfl)
    (try simp only [Act.put, List.getElem_toArray, List.getElem_cons_succ, List.getElem_cons_zero, List.setIfInBounds_toArray, List.set_cons_zero, List.set_cons_succ])
    refine wpL_take (i := 9) (oi := _) (v := ?_) rfl (by kernel_rfl) (by kernel_rfl) (by kernel_rfl) (by kernel_rfl) (fun _ _ _ h => h) (.inl ⟨by rfl, ?_⟩) (by assumption) ?_
    rotate_left
    · intro W hSw
      have hcw := hcv W hSw.1
      go_simp
      (try rfl)
    (try simp only [Act.put, List.getElem_toArray, List.getElem_cons_succ, List.getElem_cons_zero, List.setIfInBounds_toArray, List.set_cons_zero, List.set_cons_succ])
    refine wpL_ready (rs := [10]) (by kernel_rfl) (by simp) ?_
    refine AllL.cons (o := _) rfl (fun K hK => ?_) AllL.nil
    go_simp
    rw [show IntKind.i64.wrap ((IntKind.u64.wrap (q : Int)).tmod 2) = (qm : Int) by rw [IntWalk.u64_in _ (by omega), hqt, hwm]]
    refine HWR.out.mono ?_
    rintro e w13 ⟨hend, hd13, ho13⟩
    have hW12 := HW8.out.below HBD12.out
    have hk12 := hW12.disk.kinds
    have HBT13 := Lib.hid (ho13.blk_ hk12 (HBT8.out.below HBD12.out HBT8.out.lt) (by decide))
    have HRS13 := Lib.hid (ho13.blk_ hk12 (HRS8.out.below HBD12.out HRS8.out.lt) (by decide))
    have HU13 := Lib.hid ((HU8.out.sp (Only.of_below HBD12.out (fun _ => False)) id).only ho13 hk12)
    obtain ⟨d7, hd7e⟩ : ∃ x, d6.change (.wr (E.m.first + qm) (slotT q tp pc)) = x := ⟨_, rfl⟩
    have hW13 : TW (E.at_ d7 S5) w13 rd2 G2 := hW12.dk (by rw [← hd7e]; exact hd13) ho13 (fun j hj => by rw [← hd7e, look_off _ _ _ _ (by omega)]) (by rw [← hd7e, tchange_length])
    have HG13 : Hid (Gk w w13) := (HG8.out.trans (Gk.of_below HBD12.out)).trans (Gk.of_disk hW12.disk (show 0 < d6.secs.length by omega) hW12.low.d ho13)
    have HF13 : Hid (SFr saveT2 w w13) := (HF8.out.trans (SFr.of_below HBD12.out)).trans ⟨_, ho13, hk12.spare.mono (by simp [saveT2, saveT])⟩
    rcases hend with ⟨hal, rfl⟩ | ⟨hal, rfl⟩
    rotate_left
    · have HX : Hid (SvPost E rd G h t js w (tdied 3) w13) := ⟨HF13.out, HG13.out, .inr ⟨l, d6, d7, false, s, rd2, HL5.out, HRUN.out, HOS.out, by rw [HQ.out, HTP.out, HPC.out, HQM.out, Pl.Dk.run_cons, hal, hd7e]; rfl, .inr ⟨rfl, rfl⟩, hW13.disk, fun _ => hW13.tree, fun e => by cases e⟩⟩
      clear hd13 ho13 hW12 hk12 hW13 hal
      unfold tdied
      go_wp2_with fail
      exact ⟨rfl, HX.out⟩
    have HAL6 := Lib.hid hal
    have D13 : Hid (w13.cell? ⟨gt, 0, none⟩ = some (.pointer (some ⟨E.gT, 0, none⟩)) ∧ w13.cell? ⟨E.gT, 5, none⟩ = some (.int .u64 (E.m.seq : Nat))) := ⟨HBT13.out.cell 0, hW13.tree.cell 5⟩
    have HSY2 := Lib.hid (tsync_any E.gT E.m E.vD d7 rd2 w13 hW13.tree hW13.disk)
    have HW13 := Lib.hid hW13
    have HD7E := Lib.hid hd7e
    clear hd13 ho13 hW12 hk12 hW13 hal hd7e hcv
    go_wp2_with fail
    refine hK.out _ _ ⟨fun h => Bool.noConfusion ((show _ = true by kernel_rfl).symm.trans h), D13.out⟩ (fun hTill => ?_)
    clear hK K
    (try simp only [Act.put, List.getElem_toArray, List.getElem_cons_succ, List.getElem_cons_zero, List.setIfInBounds_toArray, List.set_cons_zero, List.set_cons_succ])
    refine wpL_done (by kernel_rfl) ?_ _
    clear hTill
    have d13 := D13.out.1
    go_wp2_with fail
    refine HSY2.out.mono ?_
    rintro e w14 ⟨hend, hd14, ho14⟩
    clear d13
    obtain ⟨d8, hd8e⟩ : ∃ x, d7.change .sy = x := ⟨_, rfl⟩
    have hk13 := HW13.out.disk.kinds
    have hl7 : 0 < d7.secs.length := by have : E.m.first + E.m.n ≤ d7.secs.length := HW13.out.room; omega
    have hW14 : TW (E.at_ d8 S5) w14 rd2 G2 := HW13.out.dk (by rw [← hd8e]; exact hd14) ho14 (fun j _ => by rw [← hd8e, look_sync]) (by rw [← hd8e, tchange_length])
    have HG14 : Hid (Gk w w14) := HG13.out.trans (Gk.of_disk HW13.out.disk hl7 HW13.out.low.d ho14)
    have HF14 : Hid (SFr saveT2 w w14) := HF13.out.trans ⟨_, ho14, hk13.spare.mono (by simp [saveT2, saveT])⟩
    have hBT14 := ho14.blk_ hk13 HBT13.out (by decide)
    have hRS14 := ho14.blk_ hk13 HRS13.out (by decide)
    have hU14 := HU13.out.only ho14 hk13
    rcases hend with ⟨hal, rfl⟩ | ⟨hal, rfl⟩
    rotate_left
    · have HX : Hid (SvPost E rd G h t js w (tdied 3) w14) := ⟨HF14.out, HG14.out, .inr ⟨l, d6, d8, false, s, rd2, HL5.out, HRUN.out, HOS.out, by rw [HQ.out, HTP.out, HPC.out, HQM.out, Pl.Dk.run_cons, HAL6.out, HD7E.out, if_pos rfl, Pl.Dk.run_cons, hal, hd8e]; rfl, .inr ⟨rfl, rfl⟩, hW14.disk, fun _ => hW14.tree, fun e => by cases e⟩⟩
      clear hd14 ho14 hW14 hk13 hal hBT14 hRS14 hU14
      unfold tdied
      go_wp2_with fail
      exact ⟨rfl, HX.out⟩
    have HRUN2 : Hid (d6.run [.wr (E.m.first + (E.m.seq + 1) % 2) (slotT (E.m.seq + 1) (Pl.top h s) (Pl.dcount E.m.n (Pl.secsOf h s))), .sy] = (d8, true)) := by
      rw [Hid, HQ.out, HTP.out, HPC.out, HQM.out, Pl.Dk.run_cons, HAL6.out, HD7E.out, if_pos rfl, Pl.Dk.run_cons, hal, hd8e, if_pos rfl, Pl.Dk.run_nil]
    have hT14 := hW14.tree
    have hne : b2 ≠ E.gT := hU14.ne hT14
    have hgt : gt ≠ E.gT := hBT14.ne hT14 (by decide)
    have hrt : rt ≠ E.gT := hRS14.ne hT14 (by decide)
    obtain ⟨w15, hw15⟩ : ∃ x, w14.setCell ⟨E.gT, 5, none⟩ (.int .u64 (q : Nat)) = x := ⟨_, rfl⟩
    have hT15 : Blk w15 E.gT 158 ((tmCells E.m).set 5 (.int .u64 (q : Nat))) := by rw [← hw15]; exact hT14.set_ 5 _
    have ho15 : Only (· = E.gT) w14 w15 := by rw [← hw15]; exact (Only.refl (· = E.gT) w14).setCell (p := ⟨E.gT, 5, none⟩) (.inl rfl) _
    obtain ⟨w16, hw16⟩ : ∃ x, w15.setCell ⟨E.gT, 6, none⟩ (.int .i64 (pc : Nat)) = x := ⟨_, rfl⟩
    have hT16 : Blk w16 E.gT 158 (((tmCells E.m).set 5 (.int .u64 (q : Nat))).set 6 (.int .i64 (pc : Nat))) := by rw [← hw16]; exact hT15.set_ 6 _
    have ho16 : Only (· = E.gT) w14 w16 := by rw [← hw16]; exact ho15.setCell (p := ⟨E.gT, 6, none⟩) (.inl rfl) _
    have c5 : w14.cell? ⟨E.gT, 5, none⟩ = some (.int .u64 (E.m.seq : Nat)) := hT14.cell 5
    have d14 : w14.cell? ⟨gt, 0, none⟩ = some (.pointer (some ⟨E.gT, 0, none⟩)) := hBT14.cell 0
    have d15 : w15.cell? ⟨gt, 0, none⟩ = some (.pointer (some ⟨E.gT, 0, none⟩)) := (ho15.blk hBT14 hgt).cell 0
    have d16 : w16.cell? ⟨gt, 0, none⟩ = some (.pointer (some ⟨E.gT, 0, none⟩)) := (ho16.blk hBT14 hgt).cell 0
    have c3 : w16.cell? ⟨E.gT, 3, none⟩ = some (.pointer (some ⟨rt, 0, none⟩)) := by rw [← HRT.out]; exact hT16.cell 3
    have c6 : w15.cell? ⟨E.gT, 6, none⟩ = some (.int .i64 (E.m.pages : Nat)) := hT15.cell 6
    have c4 : w16.cell? ⟨E.gT, 4, none⟩ = some (refO E.m.saved) := hT16.cell 4
    have f14 : w14.frozen? ⟨E.gT, 5, none⟩ = false := hT14.frozen 5
    have f15 : w15.frozen? ⟨E.gT, 6, none⟩ = false := hT15.frozen 6
    have f16 : w16.frozen? ⟨E.gT, 4, none⟩ = false := hT16.frozen 4
    have hlen : ∀ ty, (Builtin.len_ #[234] ty #[.map (some b2)]).run Tryz.prog w15 = .ok (.int .i64 (pc : Nat)) w15 := fun ty => by
      rw [← HPC.out]
      exact (hU14.sp ho15 hne).len E.m.n (fun j hj => (HOS.out.all _ _ _ j hj).2.1) ty
    have HT16 := Lib.hid hT16
    have HO16 := Lib.hid ho16
    have HW14 := Lib.hid hW14
    have HRS14 := Lib.hid hRS14
    have HNE := Lib.hid hrt
    have HGT := Lib.hid hgt
    clear hd14 ho14 hW14 hk13 hal hBT14 hRS14 hU14 hT14 hT15 ho15 hT16 ho16 hne hgt hrt hl7
    have C16 := Lib.hid c3
    have D16 := Lib.hid d16
    have D17 : Hid ((w16.drew.setCell ⟨E.gT, 4, none⟩ (.pointer (some ⟨rt, 0, none⟩))).cell? ⟨gt, 0, none⟩ = some (.pointer (some ⟨E.gT, 0, none⟩))) := (((Only.refl (· = E.gT) w16).drew).setCell (p := ⟨E.gT, 4, none⟩) (.inl rfl) _).cell d16 HGT.out
    go_wp2_with fail
    refine wp_region_L 7 (fun W => W.cell? ⟨E.gT, 3, none⟩ = some (.pointer (some ⟨rt, 0, none⟩))) (fun W => W.cell? ⟨gt, 0, none⟩ = some (.pointer (some ⟨E.gT, 0, none⟩))) (by kernel_rfl) C16.out D16.out (fun hTill => ?_)
    refine wpL_take' (i := 0) (oi := _) (v := ?_) rfl (by kernel_rfl) (by kernel_rfl) (by kernel_rfl) (by kernel_rfl) (fun _ _ _ h => h) (.inl ⟨by rfl, ?_⟩) (by assumption) ?_
    rotate_left
    · intro W hSw
      (try dsimp only at hSw)
      go_simp
      (try rfl)
    (try simp only [Act.put, List.getElem_toArray, List.getElem_cons_succ, List.getElem_cons_zero, List.setIfInBounds_toArray, List.set_cons_zero, List.set_cons_succ])
    refine wpL_take' (i := 1) (oi := _) (v := ?_) rfl (by kernel_rfl) (by kernel_rfl) (by kernel_rfl) (by kernel_rfl) (fun _ _ _ h => h) (.inl ⟨by rfl, ?_⟩) (by assumption) ?_
    rotate_left
    · intro W hSw
      (try dsimp only at hSw)
      go_simp
      (try rfl)
    (try simp only [Act.put, List.getElem_toArray, List.getElem_cons_succ, List.getElem_cons_zero, List.setIfInBounds_toArray, List.set_cons_zero, List.set_cons_succ])
    refine wpL_take' (i := 2) (oi := _) (v := ?_) rfl (by kernel_rfl) (by kernel_rfl) (by kernel_rfl) (by kernel_rfl) (fun _ _ _ h => h) (.inl ⟨by rfl, ?_⟩) (by assumption) ?_
    rotate_left
    · intro W hSw
      (try dsimp only at hSw)
      go_simp
      (try rfl)
    (try simp only [Act.put, List.getElem_toArray, List.getElem_cons_succ, List.getElem_cons_zero, List.setIfInBounds_toArray, List.set_cons_zero, List.set_cons_succ])
    refine wpL_take' (i := 3) (oi := _) (v := ?_) rfl (by kernel_rfl) (by kernel_rfl) (by kernel_rfl) (by kernel_rfl) (fun _ _ _ h => h) (.inl ⟨by rfl, ?_⟩) (by assumption) ?_
    rotate_left
    · intro W hSw
      (try dsimp only at hSw)
      go_simp
      (try rfl)
    (try simp only [Act.put, List.getElem_toArray, List.getElem_cons_succ, List.getElem_cons_zero, List.setIfInBounds_toArray, List.set_cons_zero, List.set_cons_succ])
    refine wpL_take (i := 4) (oi := _) (v := ?_) rfl (by kernel_rfl) (by kernel_rfl) (by kernel_rfl) (by kernel_rfl) (fun _ _ _ h => h) (.inl ⟨by rfl, ?_⟩) (by assumption) ?_
    rotate_left
    · intro W hSw
      (try dsimp only at hSw)
      go_simp
      (try rfl)
    (try simp only [Act.put, List.getElem_toArray, List.getElem_cons_succ, List.getElem_cons_zero, List.setIfInBounds_toArray, List.set_cons_zero, List.set_cons_succ])
    refine wpL_take' (i := 5) (oi := _) (v := ?_) rfl (by kernel_rfl) (by kernel_rfl) (by kernel_rfl) (by kernel_rfl) (fun _ _ _ h => h) (.inl ⟨by rfl, ?_⟩) (by assumption) ?_
    rotate_left
    · intro W hSw
      (try dsimp only at hSw)
      go_simp
      (try rfl)
    (try simp only [Act.put, List.getElem_toArray, List.getElem_cons_succ, List.getElem_cons_zero, List.setIfInBounds_toArray, List.set_cons_zero, List.set_cons_succ])
    refine wpL_take' (i := 6) (oi := _) (v := ?_) rfl (by kernel_rfl) (by kernel_rfl) (by kernel_rfl) (by kernel_rfl) (fun _ _ _ h => h) (.inl ⟨by rfl, ?_⟩) (by assumption) ?_
    rotate_left
    · intro W hSw
      (try dsimp only at hSw)
      go_simp
      (try rfl)
    (try simp only [Act.put, List.getElem_toArray, List.getElem_cons_succ, List.getElem_cons_zero, List.setIfInBounds_toArray, List.set_cons_zero, List.set_cons_succ])
    refine wpL_ready (rs := [7]) (by kernel_rfl) (by simp) ?_
    refine AllL.cons (o := _) rfl (fun K hK => ?_) AllL.nil
    go_simp
    refine hK.out _ _ ⟨fun h => Bool.noConfusion ((show _ = true by kernel_rfl).symm.trans h), D17.out⟩ (fun hTill => ?_)
    clear hK K
    (try simp only [Act.put, List.getElem_toArray, List.getElem_cons_succ, List.getElem_cons_zero, List.setIfInBounds_toArray, List.set_cons_zero, List.set_cons_succ])
    refine wpL_done (by kernel_rfl) ?_ _
    clear hTill
    go_wp2_with fail
    go_end0
    have hoF : Only (· = E.gT) w14 (w16.drew.setCell ⟨E.gT, 4, none⟩ (.pointer (some ⟨rt, 0, none⟩))) := (HO16.out.drew).setCell (p := ⟨E.gT, 4, none⟩) (.inl rfl) _
    have hTF : TmAt (w16.drew.setCell ⟨E.gT, 4, none⟩ (.pointer (some ⟨rt, 0, none⟩))) E.gT (E.m.sv pc) := by
      have h9 : Blk (w16.drew.setCell ⟨E.gT, 4, none⟩ (.pointer (some ⟨rt, 0, none⟩))) E.gT 158 ((((tmCells E.m).set 5 (.int .u64 (q : Nat))).set 6 (.int .i64 (pc : Nat))).set 4 (.pointer (some ⟨rt, 0, none⟩))) := (show Blk w16.drew E.gT 158 _ from HT16.out).set_ 4 _
      rw [← HRT.out, ← HQ.out] at h9
      rw [← HRT.out]
      exact h9
    have hk9 : Kinds (· = E.gT) w14 [158] := one_kinds HW14.out.tree
    have hpc := HPC.out
    refine ⟨HF14.out.trans ⟨_, hoF, hk9.spare.mono (by simp [saveT2])⟩, HG14.out.trans (Gk.of1 HW14.out.tree rfl HW14.out.low.t hoF), .inr ⟨l, d6, d8, true, s, rd2, HL5.out, HRUN.out, HOS.out, HRUN2.out, .inl ⟨rfl, rfl⟩, HW14.out.disk.only_ hoF hk9 (by decide) (by decide), (fun e => by cases e), fun _ => ⟨S5, G2, v8, ?_, HE1.out.trans HE8.out, ?_, ?_, HSS.out⟩⟩⟩
    · rw [hpc]
      exact HW14.out.saved hoF hTF
    · refine HR1.out.trans HR8.out ?_
      have h1 := HIN.out.len
      have h2 := HIN.out.pg
      rw [HSL.out]
      omega
    · rw [HRT.out, HTP.out]
      exact hoF.blk HRS14.out HNE.out
end Go.Proofs.YtljmklohgpaopaaGreatDoor
