/- The harness's step on a log: it is synced, the disk copied, the log opened anew. The harness's step on a log: any step. The law Logs: what its walk keeps ahead of the loop; the moves of a script; a place that may not be taken. THE LAW Logs, walked. -/
import Derived.Test.YtljmklohgpaopaaDoorMgLogs22

namespace Go.Proofs.YtljmklohgpaopaaDoor
open Go.RowKit

set_option maxHeartbeats 2000000 in
set_option maxRecDepth 100000 in
theorem step_open (B gx first sectors m : Nat) (n : Int) (s t : ByteArray) (w : World) (h : XLog B w gx first sectors m) (hG : GE w) (hGB : 0 < B) (hB : B ≤ w.heap.size) (hm : m ≤ 65536) :
    Calls Tryd.prog 18 #[.pointer (some ⟨gx, 0, none⟩), moveV 5 n s t] w (StepPost B gx first sectors m w) := by
  obtain ⟨g0, gl, v0, va, vall, vb, vs, bs, d, rd, l, ss, hx, hok, hf, hd, hbs, hep⟩ := h
  unfold moveV
  obtain ⟨w1, hw1⟩ : ∃ w1, w.alloc (.cells #[.int .i64 5, .int .i64 n, .string s, .string t] 57) = w1 := ⟨_, rfl⟩
  have hb1 : Below w.heap.size w w1 := by rw [← hw1]; exact (Below.refl _ _).alloc (Nat.le_refl _) _
  have BM : Blk w1 w.heap.size 57 [.int .i64 5, .int .i64 n, .string s, .string t] := by rw [← hw1]; exact Blk.new w 57 _
  have cM0 := BM.cell 0
  simp only [List.getElem?_cons_zero, List.getElem?_cons_succ] at cM0
  have hx1 := hx.core.below hb1
  obtain ⟨c0, c1, c2, c3, c4, c5, f0, f1, f4⟩ := facts10 hx1.blk
  have hgf : ¬ lFa gl g0 v0 va 0 := fun e => by have := hx1.low.2 _ e; omega
  have hroom := hok.room
  have hdat := hok.data
  have hrows := LogOk_rows hok
  have hsm := hx1.log.cells.small
  have hpl : placedB d.secs.length (l.first : Nat) ((l.data + 2 : Nat) : Int) 4 = true := by
    unfold placedB
    simp only [Bool.and_eq_true, decide_eq_true_eq]
    omega
  obtain ⟨d', hs, hdl, hok'⟩ := hok.syncs
  have hS := pSync_any gl g0 v0 va vs d rd l w1 hx1.log (hG.below hb1) hgf
  rw [hs] at hS
  have hop := hok'.opens
  rw [hf, hd] at hpl hop
  have hpl2 : placedB d'.secs.length first sectors 4 = true := by rw [hdl]; exact hpl
  have HOP := Lib.hid hop
  have HPL := Lib.hid hpl2
  have HS := Lib.hid hS
  have HX1 := Lib.hid hx1
  have HB1 := Lib.hid hb1
  have HOK := Lib.hid hok'
  have HSM := Lib.hid hx.same
  have HG0 := Lib.hid hG
  have hs1 := hb1.size
  clear hx hb1 hx1 hS hok hok' hs hdl hG hop hpl hpl2 hgf
  go_enter Tryd.func18, Tryd.ntmps18
  go_wp2_with fail
  refine HS.out.mono ?_
  rintro e w2 ⟨rfl, va', vs', hst, hsep, _, ho⟩
  have HX2 := Lib.hid (HX1.out.put hst hsep ho rfl rfl (Nat.le_trans hB hs1))
  have HB2 : Hid (Below B w w2) := (HB1.out.mono hB).trans (only_below ho HX1.out.low.2 (Nat.le_trans hB hs1))
  unfold errA
  obtain ⟨w2a, hw2a⟩ : ∃ w2a, w2.alloc (.cells #[.int .i64 0, .string ⟨#[]⟩, .bool true] 27) = w2a := ⟨_, rfl⟩
  have ha : Below w2.heap.size w2 w2a := by rw [← hw2a]; exact (Below.refl _ _).alloc (Nat.le_refl _) _
  have BE : Blk w2a w2.heap.size 27 [.int .i64 0, .string ⟨#[]⟩, .bool true] := by rw [← hw2a]; exact Blk.new w2 27 _
  obtain ⟨b, hb⟩ : ∃ b, w2.heap.size = b := ⟨_, rfl⟩
  have HXa := Lib.hid (HX2.out.below ha)
  have hsa := ha.size
  have h2a := HB2.out.size
  have HBA : Hid (Below B w w2a) := HB2.out.trans (ha.mono (Nat.le_trans hB h2a))
  rw [hb] at BE
  have HBEA := Lib.hid BE
  obtain ⟨x0, _, _, _, _, _, _, _, _⟩ := facts10 HXa.out.blk
  have HCP := Lib.hid (copy_any g0 v0 d' rd w2a HXa.out.log.disk)
  clear hst hsep ho ha BE
  go_wp2_with fail
  refine HCP.out.mono ?_
  rintro e wd ⟨g, v, rfl, hdk, hbd, hfar⟩
  have HXM := Lib.hid (HXa.out.moved hbd hdk hfar (Nat.le_trans hB (Nat.le_trans h2a hsa)))
  have HBM : Hid (Below B w (wd.setCell ⟨gx, 0, none⟩ (.pointer (some ⟨g, 0, none⟩)))) := (HBA.out.trans (hbd.mono (Nat.le_trans hB (Nat.le_trans h2a hsa)))).setCell (p := ⟨gx, 0, none⟩) HXa.out.low.1 _
  have hgf : ¬ dF g v 0 := fun e => by have := hfar _ e; omega
  have HCO := Lib.hid (fun W h1 h2 => pOpen_yes g v d' d' rd first sectors l W h1 h2 hgf HPL.out HOP.out)
  have HBEM : Hid (Blk (wd.setCell ⟨gx, 0, none⟩ (.pointer (some ⟨g, 0, none⟩))) b 27 [.int .i64 0, .string ⟨#[]⟩, .bool true]) := by
    have h1 := HBEA.out.below hbd HBEA.out.lt
    have h2 := (HXa.out.below hbd).blk
    refine ((Only.refl (· = gx) wd).setCell (p := ⟨gx, 0, none⟩) (.inl rfl) (.pointer (some ⟨g, 0, none⟩))).blk h1 (fun e => ?_)
    have := h2.typ.uniq (e ▸ h1.typ)
    revert this
    decide
  obtain ⟨z0, _, _, _, _, _, y0, _, _⟩ := facts10 (HXa.out.below hbd).blk
  clear hdk hbd hfar x0
  go_upto_region 35 with fail
  clear z0 y0
  obtain ⟨wc, hwc⟩ : ∃ wc, wd.setCell ⟨gx, 0, none⟩ (.pointer (some ⟨g, 0, none⟩)) = wc := ⟨_, rfl⟩
  rw [hwc] at HXM HBM HBEM ⊢
  have HXC := HXM
  have HBC := HBM
  have HBE := HBEM
  clear HXM HBM HBEM hwc
  obtain ⟨x0, _, x2, x3, _, _, _, _, _⟩ := facts10 HXC.out.blk
  have SC : Hid (wc.cell? ⟨gx, 0, none⟩ = some (.pointer (some ⟨g, 0, none⟩)) ∧ wc.cell? ⟨gx, 2, none⟩ = some (.int .i64 (l.first : Nat)) ∧ wc.cell? ⟨gx, 3, none⟩ = some (.int .i64 (l.data + 2 : Nat))) := ⟨x0, x2, x3⟩
  clear x0 x2 x3
  have HXD := Lib.hid (HXC.out.below (w' := wc.drew) (Below.refl _ _).drew)
  have HGC := Lib.hid (HG0.out.belowB HBC.out hGB)
  have HGD := Lib.hid (HGC.out.below (w' := wc.drew) (Below.refl _ _).drew)
  go_cut [20, 21] from 181 (fun sl se wx => ∃ gl2 b2 va2 vs2 rd2, sl = .pointer (some ⟨gl2, 0, none⟩) ∧ se = .pointer (some ⟨b2, 0, none⟩) ∧ Hid (Blk wx b 27 [.int .i64 0, .string ⟨#[]⟩, .bool true]) ∧ Hid (Blk wx b2 27 [.int .i64 0, .string ⟨#[]⟩, .bool true]) ∧ Hid (XPre B wx gx g gl gl2 v va2 vall vb vs2 bs d' rd2 l l ss) ∧ Hid (Below B w wx))
  case first =>
    refine wp_region_held_drew (S := (fun W : World => W.cell? ⟨gx, 0, none⟩ = some (.pointer (some ⟨g, 0, none⟩)) ∧ W.cell? ⟨gx, 2, none⟩ = some (.int .i64 (l.first : Nat)) ∧ W.cell? ⟨gx, 3, none⟩ = some (.int .i64 (l.data + 2 : Nat)))) (by kernel_rfl) SC.out (fun hHeld => ?_)
    refine wpAnyH_take (i := 0) (oi := _) (v := ?_) rfl (by kernel_rfl) (by kernel_rfl) (by kernel_rfl) (fun _ _ _ h => h) (Or.inl ⟨by rfl, ?_⟩) (by assumption) ?_
    rotate_left
    · intro W hSw
      (try dsimp only at hSw)
      go_simp
      rfl
    (try simp only [Act.put, List.getElem_toArray, List.getElem_cons_succ, List.getElem_cons_zero, List.setIfInBounds_toArray, List.set_cons_zero, List.set_cons_succ])
    refine wpAnyH_take (i := 1) (oi := _) (v := ?_) rfl (by kernel_rfl) (by kernel_rfl) (by kernel_rfl) (fun _ _ _ h => h) (Or.inl ⟨by rfl, ?_⟩) (by assumption) ?_
    rotate_left
    · intro W hSw
      (try dsimp only at hSw)
      go_simp
      rfl
    (try simp only [Act.put, List.getElem_toArray, List.getElem_cons_succ, List.getElem_cons_zero, List.setIfInBounds_toArray, List.set_cons_zero, List.set_cons_succ])
    refine wpAnyH_take (i := 2) (oi := _) (v := ?_) rfl (by kernel_rfl) (by kernel_rfl) (by kernel_rfl) (fun _ _ _ h => h) (Or.inl ⟨by rfl, ?_⟩) (by assumption) ?_
    rotate_left
    · intro W hSw
      (try dsimp only at hSw)
      go_simp
      rfl
    (try simp only [Act.put, List.getElem_toArray, List.getElem_cons_succ, List.getElem_cons_zero, List.setIfInBounds_toArray, List.set_cons_zero, List.set_cons_succ])
    refine wpAnyH_take (i := 3) (oi := _) (v := ?_) rfl (by kernel_rfl) (by kernel_rfl) (by kernel_rfl) (fun _ _ _ h => h) (Or.inl ⟨by rfl, ?_⟩) (by assumption) ?_
    rotate_left
    · intro W hSw
      (try dsimp only at hSw)
      go_simp
      rfl
    (try simp only [Act.put, List.getElem_toArray, List.getElem_cons_succ, List.getElem_cons_zero, List.setIfInBounds_toArray, List.set_cons_zero, List.set_cons_succ])
    refine wpAnyH_take (i := 4) (oi := _) (v := ?_) rfl (by kernel_rfl) (by kernel_rfl) (by kernel_rfl) (fun _ _ _ h => h) (Or.inl ⟨by rfl, ?_⟩) (by assumption) ?_
    rotate_left
    · intro W hSw
      (try dsimp only at hSw)
      go_simp
      rfl
    (try simp only [Act.put, List.getElem_toArray, List.getElem_cons_succ, List.getElem_cons_zero, List.setIfInBounds_toArray, List.set_cons_zero, List.set_cons_succ])
    refine wpAnyH_take (i := 5) (oi := _) (v := ?_) rfl (by kernel_rfl) (by kernel_rfl) (by kernel_rfl) (fun _ _ _ h => h) (Or.inl ⟨by rfl, ?_⟩) (by assumption) ?_
    rotate_left
    · intro W hSw
      (try dsimp only at hSw)
      go_simp
      rfl
    (try simp only [Act.put, List.getElem_toArray, List.getElem_cons_succ, List.getElem_cons_zero, List.setIfInBounds_toArray, List.set_cons_zero, List.set_cons_succ])
    refine wpAnyH_take (i := 6) (oi := _) (v := ?_) rfl (by kernel_rfl) (by kernel_rfl) (by kernel_rfl) (fun _ _ _ h => h) (Or.inl ⟨by rfl, ?_⟩) (by assumption) ?_
    rotate_left
    · intro W hSw
      (try dsimp only at hSw)
      go_simp
      rfl
    (try simp only [Act.put, List.getElem_toArray, List.getElem_cons_succ, List.getElem_cons_zero, List.setIfInBounds_toArray, List.set_cons_zero, List.set_cons_succ])
    refine wpAnyH_take (i := 7) (oi := _) (v := ?_) rfl (by kernel_rfl) (by kernel_rfl) (by kernel_rfl) (fun _ _ _ h => h) (Or.inl ⟨by rfl, ?_⟩) (by assumption) ?_
    rotate_left
    · intro W hSw
      (try dsimp only at hSw)
      go_simp
      rfl
    (try simp only [Act.put, List.getElem_toArray, List.getElem_cons_succ, List.getElem_cons_zero, List.setIfInBounds_toArray, List.set_cons_zero, List.set_cons_succ])
    refine wpAnyH_take (i := 8) (oi := _) (v := ?_) rfl (by kernel_rfl) (by kernel_rfl) (by kernel_rfl) (fun _ _ _ h => h) (Or.inl ⟨by rfl, ?_⟩) (by assumption) ?_
    rotate_left
    · intro W hSw
      (try dsimp only at hSw)
      go_simp
      rfl
    (try simp only [Act.put, List.getElem_toArray, List.getElem_cons_succ, List.getElem_cons_zero, List.setIfInBounds_toArray, List.set_cons_zero, List.set_cons_succ])
    refine wpAnyH_take (i := 9) (oi := _) (v := ?_) rfl (by kernel_rfl) (by kernel_rfl) (by kernel_rfl) (fun _ _ _ h => h) (Or.inl ⟨by rfl, ?_⟩) (by assumption) ?_
    rotate_left
    · intro W hSw
      (try dsimp only at hSw)
      go_simp
      rfl
    (try simp only [Act.put, List.getElem_toArray, List.getElem_cons_succ, List.getElem_cons_zero, List.setIfInBounds_toArray, List.set_cons_zero, List.set_cons_succ])
    refine wpAnyH_take (i := 10) (oi := _) (v := ?_) rfl (by kernel_rfl) (by kernel_rfl) (by kernel_rfl) (fun _ _ _ h => h) (Or.inl ⟨by rfl, ?_⟩) (by assumption) ?_
    rotate_left
    · intro W hSw
      (try dsimp only at hSw)
      go_simp
      rfl
    (try simp only [Act.put, List.getElem_toArray, List.getElem_cons_succ, List.getElem_cons_zero, List.setIfInBounds_toArray, List.set_cons_zero, List.set_cons_succ])
    refine wpAnyH_take (i := 11) (oi := _) (v := ?_) rfl (by kernel_rfl) (by kernel_rfl) (by kernel_rfl) (fun _ _ _ h => h) (Or.inl ⟨by rfl, ?_⟩) (by assumption) ?_
    rotate_left
    · intro W hSw
      (try dsimp only at hSw)
      go_simp
      rfl
    (try simp only [Act.put, List.getElem_toArray, List.getElem_cons_succ, List.getElem_cons_zero, List.setIfInBounds_toArray, List.set_cons_zero, List.set_cons_succ])
    refine wpAnyH_ready (rs := [12, 16]) (by kernel_rfl) (by simp) ?_
    refine AllReadyH.cons (o := _) rfl (fun K hK => ?_) ?_
    · go_simp
      refine (HCO.out _ HXD.out.disk HGD.out).mono ?_
      rintro e w2 ⟨o, rfl, hop2⟩
      have hbe2 : Blk w2 b 27 [.int .i64 0, .string ⟨#[]⟩, .bool true] := by
        obtain ⟨_, _, _, _, _, _, _, _, hon⟩ := hop2
        exact hon.blk_ HXD.out.disk.kinds (HBE.out.below (Below.refl _ _).drew HBE.out.lt) (by decide)
      obtain ⟨gl2, va2, vs2, rd2, rfl, hpre, hb2⟩ := HXD.out.opened hop2 (Nat.le_trans hB HBC.out.size)
      have HBE2 := Lib.hid hbe2
      have HPR2 := Lib.hid hpre
      have HB2 : Hid (Below B w w2) := HBC.out.trans ⟨hb2.os, hb2.tape, hb2.output, hb2.size, hb2.block⟩
      have hs2 := HB2.out.size
      have S2 : Hid (w2.cell? ⟨gx, 0, none⟩ = some (.pointer (some ⟨g, 0, none⟩)) ∧ w2.cell? ⟨gx, 2, none⟩ = some (.int .i64 (l.first : Nat)) ∧ w2.cell? ⟨gx, 3, none⟩ = some (.int .i64 (l.data + 2 : Nat))) := ⟨HPR2.out.blk.cell 0, HPR2.out.blk.cell 2, HPR2.out.blk.cell 3⟩
      unfold errA
      clear hop2 hbe2 hpre hb2
      go_wp2_with fail
      refine hK.out _ _ S2.out (fun hHeld2 => ?_)
      clear hK K
      (try simp only [Act.put, List.getElem_toArray, List.getElem_cons_succ, List.getElem_cons_zero, List.setIfInBounds_toArray, List.set_cons_zero, List.set_cons_succ])
      refine wpAnyH_take (i := 13) (oi := _) (v := ?_) rfl (by kernel_rfl) (by kernel_rfl) (by kernel_rfl) (fun _ _ _ h => h) (Or.inl ⟨by rfl, ?_⟩) (by assumption) ?_
      rotate_left
      · intro W hSw
        (try dsimp only at hSw)
        go_simp
        rfl
      (try simp only [Act.put, List.getElem_toArray, List.getElem_cons_succ, List.getElem_cons_zero, List.setIfInBounds_toArray, List.set_cons_zero, List.set_cons_succ])
      refine wpAnyH_take (i := 14) (oi := _) (v := ?_) rfl (by kernel_rfl) (by kernel_rfl) (by kernel_rfl) (fun _ _ _ h => h) (Or.inl ⟨by rfl, ?_⟩) (by assumption) ?_
      rotate_left
      · intro W hSw
        (try dsimp only at hSw)
        go_simp
        rfl
      (try simp only [Act.put, List.getElem_toArray, List.getElem_cons_succ, List.getElem_cons_zero, List.setIfInBounds_toArray, List.set_cons_zero, List.set_cons_succ])
      refine wpAnyH_take (i := 15) (oi := _) (v := ?_) rfl (by kernel_rfl) (by kernel_rfl) (by kernel_rfl) (fun _ _ _ h => h) (Or.inl ⟨by rfl, ?_⟩) (by assumption) ?_
      rotate_left
      · intro W hSw
        (try dsimp only at hSw)
        go_simp
        rfl
      (try simp only [Act.put, List.getElem_toArray, List.getElem_cons_succ, List.getElem_cons_zero, List.setIfInBounds_toArray, List.set_cons_zero, List.set_cons_succ])
      refine wpAnyH_ready (rs := [16]) (by kernel_rfl) (by simp) ?_
      refine AllReadyH.cons (o := _) rfl (fun K hK => ?_) AllReadyH.nil
      go_simp
      obtain ⟨w3, hw3⟩ : ∃ w3, w2.alloc (.cells #[.int .i64 0, .string ⟨#[]⟩, .bool false] 27) = w3 := ⟨_, rfl⟩
      have hb3 : Below w2.heap.size w2 w3 := by rw [← hw3]; exact (Below.refl _ _).alloc (Nat.le_refl _) _
      have B3 : Blk w3 w2.heap.size 27 [.int .i64 0, .string ⟨#[]⟩, .bool false] := by rw [← hw3]; exact Blk.new w2 27 _
      have HPR3 := Lib.hid (HPR2.out.below hb3)
      have HBE3 := Lib.hid (HBE2.out.below hb3 HBE2.out.lt)
      have HB3 : Hid (Below B w w3) := HB2.out.trans (hb3.mono (Nat.le_trans hB hs2))
      have S3 : Hid (w3.cell? ⟨gx, 0, none⟩ = some (.pointer (some ⟨g, 0, none⟩)) ∧ w3.cell? ⟨gx, 2, none⟩ = some (.int .i64 (l.first : Nat)) ∧ w3.cell? ⟨gx, 3, none⟩ = some (.int .i64 (l.data + 2 : Nat))) := ⟨HPR3.out.blk.cell 0, HPR3.out.blk.cell 2, HPR3.out.blk.cell 3⟩
      obtain ⟨e0, e1, e2, f0, f1, f2⟩ := facts3 B3
      have hne : Hid (b ≠ w2.heap.size) := Nat.ne_of_lt HBE2.out.lt
      have HBB3 := Lib.hid B3
      clear hb3 B3
      rw [hw3]
      refine hK.out _ _ S3.out (fun hHeld3 => ?_)
      clear hK K
      (try simp only [Act.put, List.getElem_toArray, List.getElem_cons_succ, List.getElem_cons_zero, List.setIfInBounds_toArray, List.set_cons_zero, List.set_cons_succ])
      refine wpAnyH_take (i := 17) (oi := _) (v := ?_) rfl (by kernel_rfl) (by kernel_rfl) (by kernel_rfl) (fun _ _ _ h => h) (Or.inl ⟨by rfl, ?_⟩) (by assumption) ?_
      rotate_left
      · intro W hSw
        (try dsimp only at hSw)
        go_simp
        rfl
      (try simp only [Act.put, List.getElem_toArray, List.getElem_cons_succ, List.getElem_cons_zero, List.setIfInBounds_toArray, List.set_cons_zero, List.set_cons_succ])
      refine wpAnyH_ready (rs := [18]) (by kernel_rfl) (by simp) ?_
      refine AllReadyH.cons (o := _) rfl (fun K hK => ?_) AllReadyH.nil
      go_simp
      have HB4 : Hid (Below B w (set3 w3 w2.heap.size 0)) := by
        have h1 : B ≤ w2.heap.size := Nat.le_trans hB hs2
        exact ((HB3.out.setCell (p := ⟨w2.heap.size, 0, none⟩) h1 _).setCell (p := ⟨w2.heap.size, 1, none⟩) h1 _).setCell (p := ⟨w2.heap.size, 2, none⟩) h1 _
      have HPR4 := Lib.hid (HPR3.out.setErr HBB3.out 0)
      have HBE4 := Lib.hid (HBE3.out.off3 w2.heap.size 0 hne.out)
      refine hK.out _ _ ⟨HPR4.out.blk.cell 0, HPR4.out.blk.cell 2, HPR4.out.blk.cell 3⟩ (fun _ => ?_)
      refine wpAnyH_done (by kernel_rfl) ?_ _
      clear hHeld hHeld2 hHeld3
      go_wp2_with fail
      go_meet
      case rel => exact ⟨_, _, _, _, _, rfl, rfl, HBE4.out, HBB3.out.set3 _ _ _, HPR4.out, HB4.out⟩
    · refine AllReadyH.cons (o := _) rfl (fun K hK => ?_) AllReadyH.nil
      go_simp
      obtain ⟨w2, hw2⟩ : ∃ w2, (wc.alloc (.cells #[.int .i64 0, .string ⟨#[]⟩, .bool false] 27)).drew = w2 := ⟨_, rfl⟩
      have hb2 : Below wc.heap.size wc w2 := by rw [← hw2]; exact Below.drew ((Below.refl _ _).alloc (Nat.le_refl _) _)
      have B2 : Blk w2 wc.heap.size 27 [.int .i64 0, .string ⟨#[]⟩, .bool false] := by rw [← hw2]; exact Blk.new wc 27 _
      have HX2 := Lib.hid (HXC.out.below hb2)
      have HBE2 := Lib.hid (HBE.out.below hb2 HBE.out.lt)
      have HB2 : Hid (Below B w w2) := HBC.out.trans (hb2.mono (Nat.le_trans hB HBC.out.size))
      have HG2 := Lib.hid (HGC.out.below hb2)
      have HBB2 := Lib.hid B2
      have hne : Hid (b ≠ wc.heap.size) := Nat.ne_of_lt HBE.out.lt
      have hs2 := HB2.out.size
      have hsc := HBC.out.size
      have S2 : Hid (w2.cell? ⟨gx, 0, none⟩ = some (.pointer (some ⟨g, 0, none⟩)) ∧ w2.cell? ⟨gx, 2, none⟩ = some (.int .i64 (l.first : Nat)) ∧ w2.cell? ⟨gx, 3, none⟩ = some (.int .i64 (l.data + 2 : Nat))) := ⟨HX2.out.blk.cell 0, HX2.out.blk.cell 2, HX2.out.blk.cell 3⟩
      rw [hw2]
      clear hb2 B2 hw2
      refine hK.out _ _ S2.out (fun hHeld2 => ?_)
      clear hK K
      (try simp only [Act.put, List.getElem_toArray, List.getElem_cons_succ, List.getElem_cons_zero, List.setIfInBounds_toArray, List.set_cons_zero, List.set_cons_succ])
      refine wpAnyH_ready (rs := [12]) (by kernel_rfl) (by simp) ?_
      refine AllReadyH.cons (o := _) rfl (fun K hK => ?_) AllReadyH.nil
      go_simp
      refine (HCO.out _ HX2.out.disk HG2.out).mono ?_
      rintro e w3 ⟨o, rfl, hop3⟩
      have hbe3 : Blk w3 b 27 [.int .i64 0, .string ⟨#[]⟩, .bool true] ∧ Blk w3 wc.heap.size 27 [.int .i64 0, .string ⟨#[]⟩, .bool false] := by
        obtain ⟨_, _, _, _, _, _, _, _, hon⟩ := hop3
        exact ⟨hon.blk_ HX2.out.disk.kinds HBE2.out (by decide), hon.blk_ HX2.out.disk.kinds HBB2.out (by decide)⟩
      obtain ⟨gl2, va2, vs2, rd2, rfl, hpre, hb3⟩ := HX2.out.opened hop3 (Nat.le_trans hB hs2)
      have HBE3 := Lib.hid hbe3.1
      have HBB3 := Lib.hid hbe3.2
      have HPR3 := Lib.hid hpre
      have HB3 : Hid (Below B w w3) := HB2.out.trans hb3
      have S3 : Hid (w3.cell? ⟨gx, 0, none⟩ = some (.pointer (some ⟨g, 0, none⟩)) ∧ w3.cell? ⟨gx, 2, none⟩ = some (.int .i64 (l.first : Nat)) ∧ w3.cell? ⟨gx, 3, none⟩ = some (.int .i64 (l.data + 2 : Nat))) := ⟨HPR3.out.blk.cell 0, HPR3.out.blk.cell 2, HPR3.out.blk.cell 3⟩
      obtain ⟨e0, e1, e2, f0, f1, f2⟩ := facts3 hbe3.2
      unfold errA
      clear hop3 hbe3 hpre hb3
      go_wp2_with fail
      refine hK.out _ _ S3.out (fun hHeld3 => ?_)
      clear hK K
      (try simp only [Act.put, List.getElem_toArray, List.getElem_cons_succ, List.getElem_cons_zero, List.setIfInBounds_toArray, List.set_cons_zero, List.set_cons_succ])
      refine wpAnyH_take (i := 13) (oi := _) (v := ?_) rfl (by kernel_rfl) (by kernel_rfl) (by kernel_rfl) (fun _ _ _ h => h) (Or.inl ⟨by rfl, ?_⟩) (by assumption) ?_
      rotate_left
      · intro W hSw
        (try dsimp only at hSw)
        go_simp
        rfl
      (try simp only [Act.put, List.getElem_toArray, List.getElem_cons_succ, List.getElem_cons_zero, List.setIfInBounds_toArray, List.set_cons_zero, List.set_cons_succ])
      refine wpAnyH_take (i := 14) (oi := _) (v := ?_) rfl (by kernel_rfl) (by kernel_rfl) (by kernel_rfl) (fun _ _ _ h => h) (Or.inl ⟨by rfl, ?_⟩) (by assumption) ?_
      rotate_left
      · intro W hSw
        (try dsimp only at hSw)
        go_simp
        rfl
      (try simp only [Act.put, List.getElem_toArray, List.getElem_cons_succ, List.getElem_cons_zero, List.setIfInBounds_toArray, List.set_cons_zero, List.set_cons_succ])
      refine wpAnyH_take (i := 15) (oi := _) (v := ?_) rfl (by kernel_rfl) (by kernel_rfl) (by kernel_rfl) (fun _ _ _ h => h) (Or.inl ⟨by rfl, ?_⟩) (by assumption) ?_
      rotate_left
      · intro W hSw
        (try dsimp only at hSw)
        go_simp
        rfl
      (try simp only [Act.put, List.getElem_toArray, List.getElem_cons_succ, List.getElem_cons_zero, List.setIfInBounds_toArray, List.set_cons_zero, List.set_cons_succ])
      refine wpAnyH_take (i := 17) (oi := _) (v := ?_) rfl (by kernel_rfl) (by kernel_rfl) (by kernel_rfl) (fun _ _ _ h => h) (Or.inl ⟨by rfl, ?_⟩) (by assumption) ?_
      rotate_left
      · intro W hSw
        (try dsimp only at hSw)
        go_simp
        rfl
      (try simp only [Act.put, List.getElem_toArray, List.getElem_cons_succ, List.getElem_cons_zero, List.setIfInBounds_toArray, List.set_cons_zero, List.set_cons_succ])
      refine wpAnyH_ready (rs := [18]) (by kernel_rfl) (by simp) ?_
      refine AllReadyH.cons (o := _) rfl (fun K hK => ?_) AllReadyH.nil
      go_simp
      have HB4 : Hid (Below B w (set3 w3 wc.heap.size 0)) := by
        have h1 : B ≤ wc.heap.size := Nat.le_trans hB hsc
        exact ((HB3.out.setCell (p := ⟨wc.heap.size, 0, none⟩) h1 _).setCell (p := ⟨wc.heap.size, 1, none⟩) h1 _).setCell (p := ⟨wc.heap.size, 2, none⟩) h1 _
      have HPR4 := Lib.hid (HPR3.out.setErr HBB3.out 0)
      have HBE4 := Lib.hid (HBE3.out.off3 wc.heap.size 0 hne.out)
      refine hK.out _ _ ⟨HPR4.out.blk.cell 0, HPR4.out.blk.cell 2, HPR4.out.blk.cell 3⟩ (fun _ => ?_)
      refine wpAnyH_done (by kernel_rfl) ?_ _
      clear hHeld hHeld2 hHeld3
      go_wp2_with fail
      go_meet
      case rel => exact ⟨_, _, _, _, _, rfl, rfl, HBE4.out, HBB3.out.set3 _ _ _, HPR4.out, HB4.out⟩
  case rest =>
    obtain ⟨gl2, b2, va2, vs2, rd2, rfl, rfl, HBE2, HBF, HPR, HBB⟩ := hcut
    obtain ⟨x0, x1, _, _, x4, _, y0, y1, y4⟩ := facts10 HPR.out.blk
    obtain ⟨e0, e1, e2, _, _, _⟩ := facts3 HBE2.out
    obtain ⟨u0, u1, u2, _, _, _⟩ := facts3 HBF.out
    have hne1 : gx ≠ b := fun e => by
      have := HPR.out.blk.typ.uniq (e ▸ HBE2.out.typ)
      revert this
      decide
    have hne2 : gx ≠ b2 := fun e => by
      have := HPR.out.blk.typ.uniq (e ▸ HBF.out.typ)
      revert this
      decide
    have hbb := HBB.out.size
    have hgx := HPR.out.low.1
    go_wp2_with fail
    refine (bare_same 0 _).mono ?_
    rintro e w4 ⟨rfl, hb4⟩
    have HX4 := Lib.hid ((HPR.out.taken rfl rfl).below hb4)
    have HBF4 := Lib.hid ((((Only.refl (· = gx) wc).setCell (p := ⟨gx, 1, none⟩) (.inl rfl) (.pointer (some ⟨gl2, 0, none⟩))).blk HBF.out hne2.symm).below hb4 (by simpa [World.setCell] using HBF.out.lt))
    have HB4 : Hid (Below B w w4) := (HBB.out.setCell (p := ⟨gx, 1, none⟩) hgx _).trans (hb4.mono (by simpa [World.setCell] using Nat.le_trans hB hbb))
    clear hb4 x0 x1 x4 y0 y1 y4 e0 e1 e2 u0 u1 u2
    obtain ⟨u0, u1, u2, _, _, _⟩ := facts3 HBF4.out
    go_wp2_with fail
    refine (bare_same 0 _).mono ?_
    rintro e w5 ⟨rfl, hb5⟩
    have h45 := HB4.out.size
    have HX5 := Lib.hid ((HX4.out.below hb5).at_ HSM.out)
    have HB5 : Hid (Below B w w5) := HB4.out.trans (hb5.mono (Nat.le_trans hB h45))
    have h55 := HB5.out.size
    have HSA := Lib.hid (same_any B w5 gx g gl2 v va2 vall vb vs2 bs d' rd2 l ss HX5.out (by omega) HOK.out.small (by omega) (Nat.le_trans hB h55))
    clear hb5 u0 u1 u2
    go_wp2_with fail
    refine HSA.out.mono ?_
    rintro e w6 ⟨rfl, vb', bs', hX6, hbl, hb6⟩
    have HX6 := Lib.hid hX6
    have HB6 : Hid (Below B w w6) := HB5.out.trans hb6
    have hbl6 : bs'.length = bs.length + l.all.length := hbl
    clear hX6 hb6 hbl
    go_wp2_with fail
    go_ret
    exact ⟨rfl, ⟨g, gl2, v, va2, _, vb', vs2, bs', d', rd2, _, ss, HX6.out, HOK.out, hf, hd, by omega, by omega⟩, HB6.out⟩
end Go.Proofs.YtljmklohgpaopaaDoor

namespace Go.Proofs.YtljmklohgpaopaaDoor
open Go.RowKit

theorem step_any (B gx first sectors m : Nat) (kd n : Int) (s t : ByteArray) (w : World) (h : XLog B w gx first sectors m) (hG : GE w) (hGB : 0 < B) (hB : B ≤ w.heap.size) (hm : m ≤ 65536) (hsz : s.size ≤ 140737488351232) :
    Calls Tryd.prog 18 #[.pointer (some ⟨gx, 0, none⟩), moveV kd n s t] w (StepPost B gx first sectors m w) := by
  by_cases k2 : kd = 2
  · subst k2
    exact step_sync B gx first sectors m n s t w h hG hGB hB hm
  by_cases k4 : kd = 4
  · subst k4
    exact step_reset B gx first sectors m n s t w h hG hGB hB hm
  by_cases k5 : kd = 5
  · subst k5
    exact step_open B gx first sectors m n s t w h hG hGB hB hm
  by_cases k1 : kd = 1
  · subst k1
    obtain ⟨g, gl, v, va, vall, vb, vs, bs, d, rd, l, ss, hx, hok, hf, hd, hbs, hep⟩ := h
    by_cases c : s.size = 0 ∨ 2000 < s.size
    · exact step_append_size B gx first sectors m n s t w g gl v va vall vb vs bs d rd l ss hx hok hf hd hbs hep hG hGB hB hm hsz c
    · by_cases c2 : l.data < l.next + Pl.chunks s.size
      · exact step_append_full B gx first sectors m n s t w g gl v va vall vb vs bs d rd l ss hx hok hf hd hbs hep hG hGB hB hm hsz (by omega) (by omega) c2
      · exact step_append_ok B gx first sectors m n s t w g gl v va vall vb vs bs d rd l ss hx hok hf hd hbs hep hG hGB hB hm hsz (by omega) (by omega) (by omega)
  by_cases k6 : kd = 6
  · subst k6
    obtain ⟨g, gl, v, va, vall, vb, vs, bs, d, rd, l, ss, hx, hok, hf, hd, hbs, hep⟩ := h
    exact step_create B gx first sectors m n s t w g gl v va vall vb vs bs d rd l ss hx hok hf hd hbs hep hG hGB hB hm
  · exact step_none B gx first sectors m kd n s t w h hB hm k1 k2 k4 k5 k6
end Go.Proofs.YtljmklohgpaopaaDoor

namespace Go.Proofs.YtljmklohgpaopaaDoor
open Go.RowKit

/-- The script's moves lie there. -/
def Moves (w : World) (A : Option Addr) (ms : List (Int × Int × ByteArray × ByteArray)) : Prop :=
  ms = [] ∨ ∃ b off, A = some ⟨b, off, none⟩ ∧ ∀ (i : Nat) m, ms[i]? = some m → w.cell? ⟨b, off + i * 4, none⟩ = some (.int .i64 m.1) ∧ w.cell? ⟨b, off + i * 4 + 1, none⟩ = some (.int .i64 m.2.1) ∧ w.cell? ⟨b, off + i * 4 + 2, none⟩ = some (.string m.2.2.1) ∧ w.cell? ⟨b, off + i * 4 + 3, none⟩ = some (.string m.2.2.2)
theorem Moves.below {w w' : World} {A : Option Addr} {ms : List (Int × Int × ByteArray × ByteArray)} (h : Moves w A ms) (hb : Below w.heap.size w w') : Moves w' A ms := by
  rcases h with h | ⟨b, off, hA, h⟩
  · exact .inl h
  · refine .inr ⟨b, off, hA, fun i m hm => ?_⟩
    obtain ⟨h0, h1, h2, h3⟩ := h i m hm
    have hlt : b < w.heap.size := World.block_lt_of_cell? w _ h0
    exact ⟨(hb.cell (p := ⟨b, off + i * 4, none⟩) hlt).trans h0, (hb.cell (p := ⟨b, off + i * 4 + 1, none⟩) hlt).trans h1, (hb.cell (p := ⟨b, off + i * 4 + 2, none⟩) hlt).trans h2, (hb.cell (p := ⟨b, off + i * 4 + 3, none⟩) hlt).trans h3⟩

/-- The walk ahead of the loop: the disk, the two errors. -/
structure LAt (w0 W : World) (g : Nat) (v : Value) (d : Pl.Dk) (rd : Int) (e1 e2 k1 k2 : Nat) : Prop where
  disk : DiskAt W g v d rd
  one : Blk W e1 27 [.int .i64 (k1 : Nat), .string ⟨#[]⟩, .bool true]
  two : Blk W e2 27 [.int .i64 (k2 : Nat), .string ⟨#[]⟩, .bool true]
  bel : Below w0.heap.size w0 W
  ge0 : GE w0
  ne : e1 ≠ e2
  low : w0.heap.size ≤ e1 ∧ w0.heap.size ≤ e2 ∧ ∀ k, dF g v k → w0.heap.size ≤ k
theorem LAt.ge {w0 W : World} {g : Nat} {v : Value} {d : Pl.Dk} {rd : Int} {e1 e2 k1 k2 : Nat} (h : LAt w0 W g v d rd e1 e2 k1 k2) : GE W := h.ge0.below h.bel
theorem LAt.far {w0 W : World} {g : Nat} {v : Value} {d : Pl.Dk} {rd : Int} {e1 e2 k1 k2 : Nat} (h : LAt w0 W g v d rd e1 e2 k1 k2) : ¬ dF g v 0 := fun e => by
  have h1 := h.low.2.2 _ e
  have h2 := GE.lt h.ge0
  omega
theorem LAt.below {w0 W W' : World} {g : Nat} {v : Value} {d : Pl.Dk} {rd : Int} {e1 e2 k1 k2 : Nat} (h : LAt w0 W g v d rd e1 e2 k1 k2) (hb : Below W.heap.size W W') : LAt w0 W' g v d rd e1 e2 k1 k2 :=
  ⟨h.disk.below hb, h.one.below hb h.one.lt, h.two.below hb h.two.lt, h.bel.trans (hb.mono h.bel.size), h.ge0, h.ne, h.low⟩
theorem LAt.disked {w0 W W' : World} {g : Nat} {v : Value} {d d' : Pl.Dk} {rd rd' : Int} {e1 e2 k1 k2 : Nat} (h : LAt w0 W g v d rd e1 e2 k1 k2) (hd : DiskAt W' g v d' rd') (ho : Only (dF g v) W W') : LAt w0 W' g v d' rd' e1 e2 k1 k2 :=
  ⟨hd, ho.blk_ h.disk.kinds h.one (by decide), ho.blk_ h.disk.kinds h.two (by decide), h.bel.trans (only_below ho h.low.2.2 h.bel.size), h.ge0, h.ne, h.low⟩
theorem LAt.set1 {w0 W : World} {g : Nat} {v : Value} {d : Pl.Dk} {rd : Int} {e1 e2 k1 k2 : Nat} (h : LAt w0 W g v d rd e1 e2 k1 k2) (k : Nat) : LAt w0 (set3 W e1 k) g v d rd e1 e2 k k2 :=
  ⟨h.disk.set3 h.one k, h.one.set3 _ _ _, h.two.off3 e1 k h.ne.symm, ((h.bel.setCell (p := ⟨e1, 0, none⟩) h.low.1 _).setCell (p := ⟨e1, 1, none⟩) h.low.1 _).setCell (p := ⟨e1, 2, none⟩) h.low.1 _, h.ge0, h.ne, h.low⟩
theorem LAt.set2 {w0 W : World} {g : Nat} {v : Value} {d : Pl.Dk} {rd : Int} {e1 e2 k1 k2 : Nat} (h : LAt w0 W g v d rd e1 e2 k1 k2) (k : Nat) : LAt w0 (set3 W e2 k) g v d rd e1 e2 k1 k :=
  ⟨h.disk.set3 h.two k, h.one.off3 e2 k h.ne, h.two.set3 _ _ _, ((h.bel.setCell (p := ⟨e2, 0, none⟩) h.low.2.1 _).setCell (p := ⟨e2, 1, none⟩) h.low.2.1 _).setCell (p := ⟨e2, 2, none⟩) h.low.2.1 _, h.ge0, h.ne, h.low⟩

theorem errA_nat1 : errA ((1 : Nat) : Int) ⟨#[]⟩ = .agg #[.int .i64 1, .string ⟨#[]⟩, .bool true] := rfl

/-- The laws of the script's moves. -/
def MoveOk (m : Int × Int × ByteArray × ByteArray) : Prop := m.2.2.1.size ≤ 140737488351232
end Go.Proofs.YtljmklohgpaopaaDoor

namespace Go.Proofs.YtljmklohgpaopaaDoor
open Go.RowKit

set_option maxHeartbeats 4000000 in
set_option maxRecDepth 100000 in
theorem logs_any (size first sectors : Int) (A : Option Addr) (cap : Nat) (ms : List (Int × Int × ByteArray × ByteArray)) (w : World) (hG : GE w) (hM : Moves w A ms) (hms : ∀ m ∈ ms, MoveOk m) (hlen : ms.length ≤ 140737488351232) :
    Calls Tryd.prog 4 #[.int .i64 size, .int .i64 first, .int .i64 sectors, .slice A ms.length cap] w fun e w' => e = .returned (.bool true) ∧ Below w.heap.size w w' := by
  have HN := Lib.hid (new_any size w)
  have HG := Lib.hid hG
  have HM := Lib.hid hM
  have HMS := Lib.hid hms
  have hE := GE.lt hG
  clear hG hM hms
  go_enter Tryd.func4, Tryd.ntmps4
  go_wp2_with fail
  refine HN.out.mono ?_
  rintro e w1 ⟨v, rfl, hd1, hb1, hfar⟩
  have HON := Lib.hid (pOpen_no (.pointer none) (.int .i64 0) (.int .i64 4) w1 (HG.out.below hb1) (fun W _ => wopen_nil 0 4 W))
  have HD1 := Lib.hid hd1
  have HB1 := Lib.hid hb1
  have HF := Lib.hid hfar
  clear hd1 hb1 hfar
  go_wp2_with fail
  refine HON.out.mono ?_
  rintro e w2 ⟨rfl, hb2⟩
  unfold errA
  obtain ⟨e1, he1⟩ : ∃ e1, w2.heap.size = e1 := ⟨_, rfl⟩
  obtain ⟨w2a, hw2a⟩ : ∃ w2a, w2.alloc (.cells #[.int .i64 1, .string ⟨#[]⟩, .bool true] 27) = w2a := ⟨_, rfl⟩
  have hb2a : Below w2.heap.size w2 w2a := by rw [← hw2a]; exact (Below.refl _ _).alloc (Nat.le_refl _) _
  have BE : Blk w2a e1 27 [.int .i64 1, .string ⟨#[]⟩, .bool true] := by rw [← hw2a, ← he1]; exact Blk.new w2 27 _
  have hl1 : Hid (w.heap.size ≤ e1) := by rw [← he1]; exact Nat.le_trans HB1.out.size hb2.size
  have HBa : Hid (Below w.heap.size w w2a) := (HB1.out.trans (hb2.mono HB1.out.size)).trans (hb2a.mono (by rw [he1]; exact hl1.out))
  have HDa := Lib.hid ((HD1.out.below hb2).below hb2a)
  have HCN := Lib.hid (pCreate_no (.pointer none) (.int .i64 0) (.int .i64 4) w2a (HG.out.below HBa.out) (fun W _ => wcreate_nil 0 4 W))
  have HBE := Lib.hid BE
  clear hb2 hb2a BE
  go_wp2_with fail
  refine HCN.out.mono ?_
  rintro e w3 ⟨rfl, hb3⟩
  unfold errA
  obtain ⟨e2, he2⟩ : ∃ e2, w3.heap.size = e2 := ⟨_, rfl⟩
  obtain ⟨w3a, hw3a⟩ : ∃ w3a, w3.alloc (.cells #[.int .i64 1, .string ⟨#[]⟩, .bool true] 27) = w3a := ⟨_, rfl⟩
  have hb3a : Below w3.heap.size w3 w3a := by rw [← hw3a]; exact (Below.refl _ _).alloc (Nat.le_refl _) _
  have BF : Blk w3a e2 27 [.int .i64 1, .string ⟨#[]⟩, .bool true] := by rw [← hw3a, ← he2]; exact Blk.new w3 27 _
  have hl2 : w.heap.size ≤ e2 := by rw [← he2]; exact Nat.le_trans HBa.out.size hb3.size
  have hb3' : Below w2a.heap.size w2a w3a := hb3.trans (hb3a.mono (by rw [he2]; have := hb3.size; omega))
  have HL : Hid (LAt w w3a w.heap.size v (Pl.Dk.new size) 0 e1 e2 1 1) :=
    ⟨HDa.out.below hb3', HBE.out.below hb3' HBE.out.lt, BF, HBa.out.trans (hb3'.mono HBa.out.size), HG.out, fun e => by have h1 := HBE.out.lt; have h2 := hb3.size; omega, hl1.out, hl2, HF.out⟩
  obtain ⟨c0, c1, c2, f0, f1, f2⟩ := facts3 HL.out.one
  clear hb3 hb3a BF hl2 hb3'
  go_wp2_with fail
  refine (bare_same 1 _).mono ?_
  rintro e w4 ⟨rfl, hb4⟩
  have HL4 := Lib.hid (HL.out.below hb4)
  clear c0 c1 c2 f0 f1 f2 hb4
  obtain ⟨c0, c1, c2, f0, f1, f2⟩ := facts3 HL4.out.two
  go_wp2_with fail
  refine (bare_same 1 _).mono ?_
  rintro e w5 ⟨rfl, hb5⟩
  have HL5 := Lib.hid (HL4.out.below hb5)
  have HPL := Lib.hid (lplaced_any w.heap.size v (Pl.Dk.new size) 0 first sectors 4 w5 HL5.out.disk)
  clear c0 c1 c2 f0 f1 f2 hb5
  go_wp2_with fail
  by_cases hp : placedB (Pl.Dk.new size).secs.length first sectors 4 = true
  rotate_left
  · have hp' : placedB (Pl.Dk.new size).secs.length first sectors 4 = false := by simpa using hp
    rw [hp'] at HPL
    refine HPL.out.mono ?_
    rintro e w6 ⟨rfl, rfl⟩
    have HON2 := Lib.hid (pOpen_no (.pointer (some ⟨w.heap.size, 0, none⟩)) (.int .i64 first) (.int .i64 sectors) w5 HL5.out.ge (fun W hb => wopen_no w.heap.size v _ 0 first sectors W (HL5.out.disk.below hb) hp'))
    go_wp2_with fail
    refine HON2.out.mono ?_
    rintro e w6 ⟨rfl, hb6⟩
    unfold errA
    have HL6 := Lib.hid (HL5.out.below hb6)
    obtain ⟨c0, c1, c2, f0, f1, f2⟩ := facts3 HL6.out.one
    obtain ⟨w7, hw7⟩ : ∃ w7, ((w6.setCell ⟨e1, 0, none⟩ (.int .i64 1)).setCell ⟨e1, 1, none⟩ (.string ⟨#[]⟩)).setCell ⟨e1, 2, none⟩ (.bool true) = w7 := ⟨_, rfl⟩
    have HL7 : Hid (LAt w w7 w.heap.size v (Pl.Dk.new size) 0 e1 e2 1 1) := by rw [← hw7]; exact HL6.out.set1 1
    have HCN2 := Lib.hid (pCreate_no (.pointer (some ⟨w.heap.size, 0, none⟩)) (.int .i64 first) (.int .i64 sectors) w7 HL7.out.ge (fun W hb => wcreate_no w.heap.size v _ 0 first sectors W (HL7.out.disk.below hb) hp'))
    clear hb6
    go_wp2_with fail
    refine HCN2.out.mono ?_
    rintro e w8 ⟨rfl, hb8⟩
    unfold errA
    have HL8 := Lib.hid (HL7.out.below hb8)
    clear c0 c1 c2 f0 f1 f2
    obtain ⟨c0, c1, c2, f0, f1, f2⟩ := facts3 HL8.out.two
    obtain ⟨w9, hw9⟩ : ∃ w9, ((w8.setCell ⟨e2, 0, none⟩ (.int .i64 1)).setCell ⟨e2, 1, none⟩ (.string ⟨#[]⟩)).setCell ⟨e2, 2, none⟩ (.bool true) = w9 := ⟨_, rfl⟩
    have HL9 : Hid (LAt w w9 w.heap.size v (Pl.Dk.new size) 0 e1 e2 1 1) := by rw [← hw9]; exact HL8.out.set2 1
    obtain ⟨d0, d1, d2, _, _, _⟩ := facts3 HL9.out.one
    clear hb8
    go_wp2_with fail
    refine (bare_same 1 _).mono ?_
    rintro e w10 ⟨rfl, hb10⟩
    have HL10 := Lib.hid (HL9.out.below hb10)
    clear c0 c1 c2 f0 f1 f2 d0 d1 d2 hb10
    obtain ⟨c0, c1, c2, f0, f1, f2⟩ := facts3 HL10.out.two
    go_wp2_with fail
    refine (bare_same 1 _).mono ?_
    rintro e w11 ⟨rfl, hb11⟩
    have HB11 := Lib.hid (HL10.out.below hb11).bel
    clear c0 c1 c2 f0 f1 f2 hb11
    go_wp2_with fail
    go_ret
    exact ⟨rfl, HB11.out⟩
  · have hp2 := hp
    unfold placedB at hp2
    simp only [Bool.and_eq_true, decide_eq_true_eq] at hp2
    obtain ⟨f, rfl⟩ : ∃ f : Nat, first = (f : Int) := ⟨first.toNat, by omega⟩
    obtain ⟨n, rfl⟩ : ∃ n : Nat, sectors = (n : Int) := ⟨sectors.toNat, by omega⟩
    have hsm := HL5.out.disk.most
    rw [hp] at HPL
    obtain ⟨d', hc, hdl, hok⟩ := Pl.create_ok (d := Pl.Dk.new size) (by show (-1 : Int) < 0; omega) (Pl.new_sound size) f n (by omega) (by omega) (by omega)
    have hop := hok.opens
    have hnn : n - 2 + 2 = n := by omega
    have hop1 : Pl.openLog d' f n = (d', .inr ⟨f, n - 2, 1, 0, [], false⟩) := by
      rw [← hnn]
      exact hop
    have hno := Pl.new_opens size f n (by omega) (by omega)
    have hp1 : placedB d'.secs.length f n 4 = true := by rw [hdl]; exact hp
    have HOK := Lib.hid hok
    refine HPL.out.mono ?_
    rintro e w6 ⟨rfl, rfl⟩
    have HON2 := Lib.hid (pOpen_none w.heap.size v (Pl.Dk.new size) (Pl.Dk.new size) 0 f n 2 w5 HL5.out.disk HL5.out.ge HL5.out.far hp hno (.inl rfl))
    have HCR := Lib.hid (fun W rd (h : LAt w W w.heap.size v (Pl.Dk.new size) rd e1 e2 2 1) => pCreate_yes w.heap.size v (Pl.Dk.new size) d' rd f n 0 W h.disk h.ge h.far hp hc)
    have HOP := Lib.hid (fun W rd (h : LAt w W w.heap.size v d' rd e1 e2 2 0) => pOpen_yes w.heap.size v d' d' rd f n _ W h.disk h.ge h.far hp1 hop1)
    have HNN := Lib.hid hnn
    clear hc hdl hok hop hop1 hno hp1 hp hnn hp2
    go_wp2_with fail
    refine HON2.out.mono ?_
    rintro e w6 ⟨rfl, ⟨rd6, hd6⟩, ho6⟩
    unfold errA
    have HL6 := Lib.hid (HL5.out.disked hd6 ho6)
    obtain ⟨c0, c1, c2, f0, f1, f2⟩ := facts3 HL6.out.one
    obtain ⟨w7, hw7⟩ : ∃ w7, ((w6.setCell ⟨e1, 0, none⟩ (.int .i64 2)).setCell ⟨e1, 1, none⟩ (.string ⟨#[]⟩)).setCell ⟨e1, 2, none⟩ (.bool true) = w7 := ⟨_, rfl⟩
    have HL7 : Hid (LAt w w7 w.heap.size v (Pl.Dk.new size) rd6 e1 e2 2 1) := by rw [← hw7]; exact HL6.out.set1 2
    have HCN2 := Lib.hid (HCR.out w7 rd6 HL7.out)
    clear hd6 ho6
    go_wp2_with fail
    refine HCN2.out.mono ?_
    rintro e w8 ⟨rfl, hd8, ho8⟩
    unfold errA
    have HL8 := Lib.hid (HL7.out.disked hd8 ho8)
    clear c0 c1 c2 f0 f1 f2
    obtain ⟨c0, c1, c2, f0, f1, f2⟩ := facts3 HL8.out.two
    obtain ⟨w9, hw9⟩ : ∃ w9, ((w8.setCell ⟨e2, 0, none⟩ (.int .i64 0)).setCell ⟨e2, 1, none⟩ (.string ⟨#[]⟩)).setCell ⟨e2, 2, none⟩ (.bool true) = w9 := ⟨_, rfl⟩
    have HL9 : Hid (LAt w w9 w.heap.size v d' rd6 e1 e2 2 0) := by rw [← hw9]; exact HL8.out.set2 0
    obtain ⟨d0, d1, d2, _, _, _⟩ := facts3 HL9.out.one
    clear hd8 ho8
    go_wp2_with fail
    refine (bare_same 2 _).mono ?_
    rintro e w10 ⟨rfl, hb10⟩
    have HL10 := Lib.hid (HL9.out.below hb10)
    clear c0 c1 c2 f0 f1 f2 d0 d1 d2 hb10
    obtain ⟨c0, c1, c2, f0, f1, f2⟩ := facts3 HL10.out.two
    go_wp2_with fail
    refine (bare_same 0 _).mono ?_
    rintro e w11 ⟨rfl, hb11⟩
    have HL11 := Lib.hid (HL10.out.below hb11)
    have HOP2 := Lib.hid (HOP.out w11 rd6 HL11.out)
    clear c0 c1 c2 f0 f1 f2 hb11
    go_wp2_with fail
    refine HOP2.out.mono ?_
    rintro e w12 ⟨o, rfl, gl, va, vs, rd, rfl, hst, hgl, hva, hon⟩
    unfold errA
    have HL12 := Lib.hid (HL11.out.disked hst.disk hon)
    have hs11 := HL11.out.bel.size
    have HGL : Hid (w.heap.size ≤ gl) := Nat.le_trans hs11 hgl
    have HVA : Hid (∀ x, va.ownBlock = some x → w.heap.size ≤ x) := fun x hx => Nat.le_trans hs11 (hva x hx)
    have HST := Lib.hid hst
    obtain ⟨c0, c1, c2, f0, f1, f2⟩ := facts3 HL12.out.one
    obtain ⟨w13, hw13⟩ : ∃ w13, ((w12.setCell ⟨e1, 0, none⟩ (.int .i64 0)).setCell ⟨e1, 1, none⟩ (.string ⟨#[]⟩)).setCell ⟨e1, 2, none⟩ (.bool true) = w13 := ⟨_, rfl⟩
    have HL13 : Hid (LAt w w13 w.heap.size v d' rd e1 e2 0 0) := by rw [← hw13]; exact HL12.out.set1 0
    have HST13 : Hid (LogSt w13 gl w.heap.size v va vs d' rd ⟨f, n - 2, 1, 0, [], false⟩) := by rw [← hw13]; exact HST.out.set3 HL12.out.one _ _ _
    obtain ⟨d0, d1, d2, _, _, _⟩ := facts3 HL13.out.one
    clear hst hgl hva hon
    go_wp2_with fail
    refine (bare_same 0 _).mono ?_
    rintro e w14 ⟨rfl, hb14⟩
    have HL14 := Lib.hid (HL13.out.below hb14)
    have HST14 := Lib.hid (HST13.out.below hb14)
    clear c0 c1 c2 f0 f1 f2 d0 d1 d2 hb14
    obtain ⟨gx, hgx⟩ : ∃ gx, w14.heap.size = gx := ⟨_, rfl⟩
    obtain ⟨w15, hw15⟩ : ∃ w15, w14.alloc (.cells #[.pointer (some ⟨w.heap.size, 0, none⟩), .pointer (some ⟨gl, 0, none⟩), .int .i64 (f : Int), .int .i64 (n : Int), .slice none 0 0, .slice none 0 0, .slice none 0 0, .slice none 0 0, .slice none 0 0, .slice none 0 0] 54) = w15 := ⟨_, rfl⟩
    have hb15 : Below w14.heap.size w14 w15 := by rw [← hw15]; exact (Below.refl _ _).alloc (Nat.le_refl _) _
    have BX : Blk w15 gx 54 (xCells w.heap.size gl ⟨f, n - 2, 1, 0, [], false⟩ (.slice none 0 0) (.slice none 0 0)) := by
      have h1 := Blk.new w14 54 (xCells w.heap.size gl ⟨f, n - 2, 1, 0, [], false⟩ (.slice none 0 0) (.slice none 0 0))
      rw [← hw15, ← hgx]
      unfold xCells at h1 ⊢
      simp only [HNN.out] at h1 ⊢
      exact h1
    have hlx : w.heap.size ≤ gx := by rw [← hgx]; exact HL14.out.bel.size
    have HXL : Hid (XLog w.heap.size w15 gx f n 0) :=
      ⟨w.heap.size, gl, v, va, .slice none 0 0, .slice none 0 0, vs, [], d', rd, ⟨f, n - 2, 1, 0, [], false⟩, [], ⟨BX, HST14.out.below hb15, World.ownsRow_nil _ _ _ _, rfl, ⟨World.ownsRow_nil _ _ _ _, fun i u hu => by simp at hu⟩, ⟨hlx, fun k hk => by
        rcases hk with (hk | hk) | hk
        · exact HL14.out.low.2.2 k hk
        · rw [hk]; exact HGL.out
        · exact HVA.out k hk⟩, fun k _ e => by cases e⟩, HOK.out, rfl, HNN.out, Nat.zero_le _, Nat.le_refl _⟩
    have HB15 : Hid (Below w.heap.size w w15) := (HL14.out.below hb15).bel
    clear hb15 BX
    obtain ⟨N, hN⟩ : ∃ N, ms.length = N := ⟨_, rfl⟩
    rw [hN] at hlen
    go_wp2_with fail
    go_loopw [18] (fun i W => ∃ (k : Nat), k ≤ N ∧ k ≤ 65536 ∧ i = .int .i64 (k : Int) ∧ Hid (XLog w.heap.size W gx f n k) ∧ Hid (Below w.heap.size w W)) (fun i _ => N - (intOf i).toNat)
    case atStart => exact ⟨0, Nat.zero_le _, Nat.zero_le _, rfl, HXL, HB15⟩
    case round =>
      obtain ⟨k, hk, hk2, rfl, HX, HB⟩ := hrel
      by_cases h1 : k < N
      · by_cases h2 : k < 65536
        · obtain ⟨⟨kd, nn, s, t⟩, hm⟩ : ∃ m, ms[k]? = some m := ⟨_, List.getElem?_eq_getElem (by rw [hN]; exact h1)⟩
          have hsz := HMS.out _ (List.mem_of_getElem? hm)
          have hmv := HM.out.below HB.out
          rcases hmv with hmv | ⟨b, off, rfl, hmv⟩
          · rw [hmv] at hm
            simp at hm
          obtain ⟨m0, m1, m2, m3⟩ := hmv k _ hm
          dsimp only at m0 m1 m2 m3
          have HST := Lib.hid (step_any w.heap.size gx f n k kd nn s t wr HX.out (HG.out.below HB.out) hE HB.out.size hk2 hsz)
          unfold moveV at HST
          clear hmv hm hsz
          have HK1 := Lib.hid h1
          have HK2 := Lib.hid h2
          have q1 : ((k : Int) < (N : Int)) := by omega
          have q2 : ((k : Int) < 65536) := by omega
          have z1 : decide ((k : Int) < (N : Int)) = true := by simpa using h1
          have z2 : decide ((k : Int) < 65536) = true := decide_eq_true q2
          clear h1 h2 hk hk2
          go_wp2_with fail
          refine HST.out.mono ?_
          rintro e w' ⟨rfl, hx', hb'⟩
          have HX' := Lib.hid hx'
          have HB' : Hid (Below w.heap.size w w') := HB.out.trans hb'
          obtain ⟨g', gl', v', va', vall', vb', vs', bs', d2, rd2, l', ss', hx2, _, _, _, hbs', _⟩ := hx'
          have HLK := Lib.hid (looks_any gx 5 w.heap.size vb' bs' w' hx2.book (hx2.blk.cell 5) (hx2.blk.cell 6) (hx2.blk.cell 7) (hx2.blk.cell 8) (hx2.blk.cell 9) (by omega))
          clear hx2 hbs' hb'
          go_wp2_with fail
          refine HLK.out.mono ?_
          rintro e w'' ⟨rfl, rfl⟩
          go_wp2_with fail
          exact ⟨⟨k + 1, by omega, by omega, by go_num, HX', HB'⟩, by simp [intOf]; omega⟩
        · obtain rfl : k = 65536 := by omega
          go_wp2_with fail
          go_ret
          exact ⟨rfl, HB.out⟩
      · obtain rfl : k = N := by omega
        go_wp2_with fail
        go_ret
        exact ⟨rfl, HB.out⟩
end Go.Proofs.YtljmklohgpaopaaDoor
