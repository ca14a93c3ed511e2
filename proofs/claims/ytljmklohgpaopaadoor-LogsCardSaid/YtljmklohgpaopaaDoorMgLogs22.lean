/- The harness's step on a log: one is created over it. -/
import Derived.Test.YtljmklohgpaopaaDoorMgLogs21

namespace Go.Proofs.YtljmklohgpaopaaDoor
open Go.RowKit

theorem Blk.off3 {w : World} {c : Nat} {t : TypeId} {cs : List Value} (h : Blk w c t cs) (b k : Nat) (hn : c ≠ b) : Blk (Go.Proofs.YtljmklohgpaopaaDoor.set3 w b k) c t cs :=
  ((((Only.refl (· = b) w).setCell (p := ⟨b, 0, none⟩) (.inl rfl) _).setCell (p := ⟨b, 1, none⟩) (.inl rfl) _).setCell (p := ⟨b, 2, none⟩) (.inl rfl) _).blk h hn

theorem GE.belowB {B : Nat} {w w' : World} (h : GE w) (hb : Below B w w') (hl : 0 < B) : GE w' := (hb.cell (p := ⟨0, 0, none⟩) hl).trans h
/-- A result's cells are laid. -/
theorem XCore.setErr {B b : Nat} {w : World} {gx g gl : Nat} {v va vall vb a0 a1 a2 : Value} {vs bs : List Value} {d : Pl.Dk} {rd : Int} {l : Pl.Lg} {ss : List ByteArray} (h : XCore B w gx g gl v va vall vb vs bs d rd l ss) (hb : Blk w b 27 [a0, a1, a2]) (k : Nat) : XCore B (set3 w b k) gx g gl v va vall vb vs bs d rd l ss := by
  have ho : Only (· = b) w (set3 w b k) :=
    (((Only.refl (· = b) w).setCell (p := ⟨b, 0, none⟩) (.inl rfl) _).setCell (p := ⟨b, 1, none⟩) (.inl rfl) _).setCell (p := ⟨b, 2, none⟩) (.inl rfl) _
  have hk : Kinds (· = b) w [27] := fun x hx => by
    rw [hx]
    exact ⟨_, by simp, hb.typ⟩
  exact ⟨ho.blk_ hk h.blk (by decide), h.log.onlyT ho hk (by decide) (by decide) (by decide) (by decide) (by decide), ho.own_ hk h.all (by decide), ⟨ho.own_ hk h.book.own (by decide), fun i u hu => by
    obtain ⟨c, hc⟩ := h.book.each i u hu
    exact ⟨c, ho.own_ hk hc (by decide)⟩⟩, h.low, h.apart⟩

set_option maxHeartbeats 2000000 in
set_option maxRecDepth 100000 in
theorem step_create (B gx first sectors m : Nat) (n : Int) (s t : ByteArray) (w : World) (g gl : Nat) (v va vall vb : Value) (vs bs : List Value) (d : Pl.Dk) (rd : Int) (l : Pl.Lg) (ss : List ByteArray) (hx : XAt B w gx g gl v va vall vb vs bs d rd l ss) (hok : Pl.LogOk d l) (hf : l.first = first) (hd : l.data + 2 = sectors) (hbs : bs.length ≤ 5000 * m) (hep : l.epoch ≤ m + 1)
    (hG : GE w) (hGB : 0 < B) (hB : B ≤ w.heap.size) (hm : m ≤ 65536) :
    Calls Tryd.prog 18 #[.pointer (some ⟨gx, 0, none⟩), moveV 6 n s t] w (StepPost B gx first sectors m w) := by
  unfold moveV
  obtain ⟨w1, hw1⟩ : ∃ w1, w.alloc (.cells #[.int .i64 6, .int .i64 n, .string s, .string t] 57) = w1 := ⟨_, rfl⟩
  have hb1 : Below w.heap.size w w1 := by rw [← hw1]; exact (Below.refl _ _).alloc (Nat.le_refl _) _
  have BM : Blk w1 w.heap.size 57 [.int .i64 6, .int .i64 n, .string s, .string t] := by rw [← hw1]; exact Blk.new w 57 _
  have cM0 := BM.cell 0
  simp only [List.getElem?_cons_zero, List.getElem?_cons_succ] at cM0
  have hx1 := hx.core.below hb1
  have hs1 := hb1.size
  obtain ⟨x0, x1, x2, x3, x4, x5, y0, y1, y4⟩ := facts10 hx1.blk
  have hgf : ¬ dF g v 0 := fun e => by have := hx1.low.2 _ (.inl (.inl e)); omega
  have hroom := hok.room
  have hdat := hok.data
  have hsm := hx1.log.cells.small
  have hpl : placedB d.secs.length (l.first : Nat) ((l.data + 2 : Nat) : Int) 4 = true := by
    unfold placedB
    simp only [Bool.and_eq_true, decide_eq_true_eq]
    omega
  obtain ⟨d', hc, hdl, hok'⟩ := Pl.create_ok hok.live hok.sound l.first (l.data + 2) (by omega) (by omega) (by omega)
  rw [hf, hd] at hc hpl
  have HC := Lib.hid (fun W h1 h2 => pCreate_yes g v d d' rd first sectors 0 W h1 h2 hgf hpl hc)
  have hop : Pl.openLog d' first sectors = (d', .inr ⟨l.first, l.data + 2 - 2, 1, 0, [], false⟩) := by
    have h9 := hok'.opens
    have h10 : (⟨l.first, l.data + 2 - 2, 1, 0, [], false⟩ : Pl.Lg).data + 2 = sectors := by show l.data + 2 - 2 + 2 = sectors; omega
    have h11 : (⟨l.first, l.data + 2 - 2, 1, 0, [], false⟩ : Pl.Lg).first = first := hf
    rw [h10, h11] at h9
    rw [hf]
    exact h9
  have hpl2 : placedB d'.secs.length first sectors 4 = true := by rw [hdl]; exact hpl
  have HCO := Lib.hid (fun W h1 h2 => pOpen_yes g v d' d' rd first sectors _ W h1 h2 hgf hpl2 hop)
  have HG0 := Lib.hid hG
  have S1 : Hid (w1.cell? ⟨gx, 0, none⟩ = some (.pointer (some ⟨g, 0, none⟩)) ∧ w1.cell? ⟨gx, 2, none⟩ = some (.int .i64 (l.first : Nat)) ∧ w1.cell? ⟨gx, 3, none⟩ = some (.int .i64 (l.data + 2 : Nat))) := ⟨x0, x2, x3⟩
  have HX1 := Lib.hid hx1
  have HB1 := Lib.hid hb1
  have HOK := Lib.hid hok'
  have HG1 := Lib.hid (hG.below hb1)
  clear hx hb1 hx1 hok hok' hG x0 x1 x2 x3 x4 x5 y0 y1 y4 hc hpl hop hpl2 hdl
  go_enter Tryd.func18, Tryd.ntmps18
  go_wp2_with fail
  go_upto_region 24 with fail
  go_cut [14] from 116 (fun s14 wx => ∃ b, s14 = .pointer (some ⟨b, 0, none⟩) ∧ Hid (Blk wx b 27 [.int .i64 0, .string ⟨#[]⟩, .bool true]) ∧ Hid (XCore B wx gx g gl v va vall vb vs bs d' rd l ss) ∧ Hid (Below B w wx))
  case first =>
    refine wp_region_held_drew (S := (fun W : World => W.cell? ⟨gx, 0, none⟩ = some (.pointer (some ⟨g, 0, none⟩)) ∧ W.cell? ⟨gx, 2, none⟩ = some (.int .i64 (l.first : Nat)) ∧ W.cell? ⟨gx, 3, none⟩ = some (.int .i64 (l.data + 2 : Nat)))) (by kernel_rfl) S1.out (fun hHeld => ?_)
    refine wpAnyH_take (i := 0) (oi := _) (v := ?_) rfl (by kernel_rfl) (by kernel_rfl) (by kernel_rfl) (fun _ _ _ h => h) (Or.inl ⟨by rfl, ?_⟩) (by assumption) ?_
    rotate_left
    · intro W hSw
      (try dsimp only at hSw)
      go_simp
      rfl
    (try simp only [Act.put, List.getElem_toArray, List.getElem_cons_succ, List.getElem_cons_zero, List.setIfInBounds_toArray, List.set_cons_zero, List.set_cons_succ])
    refine wpAnyH_take (i := 1) (oi := _) (v := ?_) rfl (by kernel_rfl) (by kernel_rfl) (by kernel_rfl) (fun _ _ _ h => h) (Or.inl ⟨by rfl, ?_⟩) (by assumption) ?_
    rotate_left
    · intro W hSw
      (try dsimp only at hSw)
      go_simp
      rfl
    (try simp only [Act.put, List.getElem_toArray, List.getElem_cons_succ, List.getElem_cons_zero, List.setIfInBounds_toArray, List.set_cons_zero, List.set_cons_succ])
    refine wpAnyH_take (i := 2) (oi := _) (v := ?_) rfl (by kernel_rfl) (by kernel_rfl) (by kernel_rfl) (fun _ _ _ h => h) (Or.inl ⟨by rfl, ?_⟩) (by assumption) ?_
    rotate_left
    · intro W hSw
      (try dsimp only at hSw)
      go_simp
      rfl
    (try simp only [Act.put, List.getElem_toArray, List.getElem_cons_succ, List.getElem_cons_zero, List.setIfInBounds_toArray, List.set_cons_zero, List.set_cons_succ])
    refine wpAnyH_take (i := 3) (oi := _) (v := ?_) rfl (by kernel_rfl) (by kernel_rfl) (by kernel_rfl) (fun _ _ _ h => h) (Or.inl ⟨by rfl, ?_⟩) (by assumption) ?_
    rotate_left
    · intro W hSw
      (try dsimp only at hSw)
      go_simp
      rfl
    (try simp only [Act.put, List.getElem_toArray, List.getElem_cons_succ, List.getElem_cons_zero, List.setIfInBounds_toArray, List.set_cons_zero, List.set_cons_succ])
    refine wpAnyH_take (i := 4) (oi := _) (v := ?_) rfl (by kernel_rfl) (by kernel_rfl) (by kernel_rfl) (fun _ _ _ h => h) (Or.inl ⟨by rfl, ?_⟩) (by assumption) ?_
    rotate_left
    · intro W hSw
      (try dsimp only at hSw)
      go_simp
      rfl
    (try simp only [Act.put, List.getElem_toArray, List.getElem_cons_succ, List.getElem_cons_zero, List.setIfInBounds_toArray, List.set_cons_zero, List.set_cons_succ])
    refine wpAnyH_take (i := 5) (oi := _) (v := ?_) rfl (by kernel_rfl) (by kernel_rfl) (by kernel_rfl) (fun _ _ _ h => h) (Or.inl ⟨by rfl, ?_⟩) (by assumption) ?_
    rotate_left
    · intro W hSw
      (try dsimp only at hSw)
      go_simp
      rfl
    (try simp only [Act.put, List.getElem_toArray, List.getElem_cons_succ, List.getElem_cons_zero, List.setIfInBounds_toArray, List.set_cons_zero, List.set_cons_succ])
    refine wpAnyH_take (i := 6) (oi := _) (v := ?_) rfl (by kernel_rfl) (by kernel_rfl) (by kernel_rfl) (fun _ _ _ h => h) (Or.inl ⟨by rfl, ?_⟩) (by assumption) ?_
    rotate_left
    · intro W hSw
      (try dsimp only at hSw)
      go_simp
      rfl
    (try simp only [Act.put, List.getElem_toArray, List.getElem_cons_succ, List.getElem_cons_zero, List.setIfInBounds_toArray, List.set_cons_zero, List.set_cons_succ])
    refine wpAnyH_take (i := 7) (oi := _) (v := ?_) rfl (by kernel_rfl) (by kernel_rfl) (by kernel_rfl) (fun _ _ _ h => h) (Or.inl ⟨by rfl, ?_⟩) (by assumption) ?_
    rotate_left
    · intro W hSw
      (try dsimp only at hSw)
      go_simp
      rfl
    (try simp only [Act.put, List.getElem_toArray, List.getElem_cons_succ, List.getElem_cons_zero, List.setIfInBounds_toArray, List.set_cons_zero, List.set_cons_succ])
    refine wpAnyH_take (i := 8) (oi := _) (v := ?_) rfl (by kernel_rfl) (by kernel_rfl) (by kernel_rfl) (fun _ _ _ h => h) (Or.inl ⟨by rfl, ?_⟩) (by assumption) ?_
    rotate_left
    · intro W hSw
      (try dsimp only at hSw)
      go_simp
      rfl
    (try simp only [Act.put, List.getElem_toArray, List.getElem_cons_succ, List.getElem_cons_zero, List.setIfInBounds_toArray, List.set_cons_zero, List.set_cons_succ])
    refine wpAnyH_take (i := 9) (oi := _) (v := ?_) rfl (by kernel_rfl) (by kernel_rfl) (by kernel_rfl) (fun _ _ _ h => h) (Or.inl ⟨by rfl, ?_⟩) (by assumption) ?_
    rotate_left
    · intro W hSw
      (try dsimp only at hSw)
      go_simp
      rfl
    (try simp only [Act.put, List.getElem_toArray, List.getElem_cons_succ, List.getElem_cons_zero, List.setIfInBounds_toArray, List.set_cons_zero, List.set_cons_succ])
    refine wpAnyH_take (i := 10) (oi := _) (v := ?_) rfl (by kernel_rfl) (by kernel_rfl) (by kernel_rfl) (fun _ _ _ h => h) (Or.inl ⟨by rfl, ?_⟩) (by assumption) ?_
    rotate_left
    · intro W hSw
      (try dsimp only at hSw)
      go_simp
      rfl
    (try simp only [Act.put, List.getElem_toArray, List.getElem_cons_succ, List.getElem_cons_zero, List.setIfInBounds_toArray, List.set_cons_zero, List.set_cons_succ])
    refine wpAnyH_take (i := 11) (oi := _) (v := ?_) rfl (by kernel_rfl) (by kernel_rfl) (by kernel_rfl) (fun _ _ _ h => h) (Or.inl ⟨by rfl, ?_⟩) (by assumption) ?_
    rotate_left
    · intro W hSw
      (try dsimp only at hSw)
      go_simp
      rfl
    (try simp only [Act.put, List.getElem_toArray, List.getElem_cons_succ, List.getElem_cons_zero, List.setIfInBounds_toArray, List.set_cons_zero, List.set_cons_succ])
    refine wpAnyH_ready (rs := [12, 13]) (by kernel_rfl) (by simp) ?_
    refine AllReadyH.cons (o := _) rfl (fun K hK => ?_) ?_
    · go_simp
      refine (HC.out _ (HX1.out.log.disk.below (w' := w1.drew) (Below.refl _ _).drew) (HG1.out.below (w' := w1.drew) (Below.refl _ _).drew)).mono ?_
      rintro e w2 ⟨rfl, hd2, ho2⟩
      have hO : Only (dF g v) w1 w2 := ⟨ho2.os, ho2.tape, ho2.output, ho2.size, ho2.block⟩
      have HX2 := Lib.hid (HX1.out.put (HX1.out.log.disked hd2 hO) (Sep.refl _ _) (hO.mono (fun _ _ h => .inl (.inl h))) rfl rfl (Nat.le_trans hB hs1))
      have HB2 : Hid (Below B w w2) := (HB1.out.mono hB).trans (only_below hO (fun k hk => HX1.out.low.2 k (.inl (.inl hk))) (Nat.le_trans hB hs1))
      have S2 : Hid (w2.cell? ⟨gx, 0, none⟩ = some (.pointer (some ⟨g, 0, none⟩)) ∧ w2.cell? ⟨gx, 2, none⟩ = some (.int .i64 (l.first : Nat)) ∧ w2.cell? ⟨gx, 3, none⟩ = some (.int .i64 (l.data + 2 : Nat))) := ⟨HX2.out.blk.cell 0, HX2.out.blk.cell 2, HX2.out.blk.cell 3⟩
      have hs2 := HB2.out.size
      unfold errA
      clear hd2 ho2 hO
      go_wp2_with fail
      refine hK.out _ _ S2.out (fun hHeld2 => ?_)
      clear hK K
      (try simp only [Act.put, List.getElem_toArray, List.getElem_cons_succ, List.getElem_cons_zero, List.setIfInBounds_toArray, List.set_cons_zero, List.set_cons_succ])
      refine wpAnyH_ready (rs := [13]) (by kernel_rfl) (by simp) ?_
      refine AllReadyH.cons (o := _) rfl (fun K hK => ?_) AllReadyH.nil
      go_simp
      obtain ⟨w3, hw3⟩ : ∃ w3, w2.alloc (.cells #[.int .i64 0, .string ⟨#[]⟩, .bool false] 27) = w3 := ⟨_, rfl⟩
      have hb3 : Below w2.heap.size w2 w3 := by rw [← hw3]; exact (Below.refl _ _).alloc (Nat.le_refl _) _
      have B3 : Blk w3 w2.heap.size 27 [.int .i64 0, .string ⟨#[]⟩, .bool false] := by rw [← hw3]; exact Blk.new w2 27 _
      have HX3 := Lib.hid (HX2.out.below hb3)
      have HB3 : Hid (Below B w w3) := HB2.out.trans (hb3.mono (Nat.le_trans hB hs2))
      have S3 : Hid (w3.cell? ⟨gx, 0, none⟩ = some (.pointer (some ⟨g, 0, none⟩)) ∧ w3.cell? ⟨gx, 2, none⟩ = some (.int .i64 (l.first : Nat)) ∧ w3.cell? ⟨gx, 3, none⟩ = some (.int .i64 (l.data + 2 : Nat))) := ⟨HX3.out.blk.cell 0, HX3.out.blk.cell 2, HX3.out.blk.cell 3⟩
      obtain ⟨e0, e1, e2, f0, f1, f2⟩ := facts3 B3
      have HBB3 := Lib.hid B3
      clear hb3 B3
      rw [hw3]
      refine hK.out _ _ S3.out (fun hHeld3 => ?_)
      clear hK K
      (try simp only [Act.put, List.getElem_toArray, List.getElem_cons_succ, List.getElem_cons_zero, List.setIfInBounds_toArray, List.set_cons_zero, List.set_cons_succ])
      refine wpAnyH_ready (rs := [14]) (by kernel_rfl) (by simp) ?_
      refine AllReadyH.cons (o := _) rfl (fun K hK => ?_) AllReadyH.nil
      go_simp
      have HB4 : Hid (Below B w (set3 w3 w2.heap.size 0)) := by
        have h1 : B ≤ w2.heap.size := Nat.le_trans hB hs2
        exact ((HB3.out.setCell (p := ⟨w2.heap.size, 0, none⟩) h1 _).setCell (p := ⟨w2.heap.size, 1, none⟩) h1 _).setCell (p := ⟨w2.heap.size, 2, none⟩) h1 _
      have HX4 := Lib.hid (HX3.out.setErr HBB3.out 0)
      refine hK.out _ _ ⟨HX4.out.blk.cell 0, HX4.out.blk.cell 2, HX4.out.blk.cell 3⟩ (fun _ => ?_)
      refine wpAnyH_done (by kernel_rfl) ?_ _
      clear hHeld hHeld2 hHeld3
      go_wp2_with fail
      go_meet
      case rel => exact ⟨_, rfl, HBB3.out.set3 _ _ _, HX4.out, HB4.out⟩
    · refine AllReadyH.cons (o := _) rfl (fun K hK => ?_) AllReadyH.nil
      go_simp
      obtain ⟨w2, hw2⟩ : ∃ w2, (w1.alloc (.cells #[.int .i64 0, .string ⟨#[]⟩, .bool false] 27)).drew = w2 := ⟨_, rfl⟩
      have hb2 : Below w1.heap.size w1 w2 := by rw [← hw2]; exact Below.drew ((Below.refl _ _).alloc (Nat.le_refl _) _)
      have B2 : Blk w2 w1.heap.size 27 [.int .i64 0, .string ⟨#[]⟩, .bool false] := by rw [← hw2]; exact Blk.new w1 27 _
      have HX2 := Lib.hid (HX1.out.below hb2)
      have HB2 : Hid (Below B w w2) := (HB1.out.mono hB).trans (hb2.mono (Nat.le_trans hB hs1))
      have HG2 := Lib.hid (HG1.out.below hb2)
      have HBB2 := Lib.hid B2
      have S2 : Hid (w2.cell? ⟨gx, 0, none⟩ = some (.pointer (some ⟨g, 0, none⟩)) ∧ w2.cell? ⟨gx, 2, none⟩ = some (.int .i64 (l.first : Nat)) ∧ w2.cell? ⟨gx, 3, none⟩ = some (.int .i64 (l.data + 2 : Nat))) := ⟨HX2.out.blk.cell 0, HX2.out.blk.cell 2, HX2.out.blk.cell 3⟩
      have hs2 := hb2.size
      rw [hw2]
      clear hb2 B2 hw2
      refine hK.out _ _ S2.out (fun hHeld2 => ?_)
      clear hK K
      (try simp only [Act.put, List.getElem_toArray, List.getElem_cons_succ, List.getElem_cons_zero, List.setIfInBounds_toArray, List.set_cons_zero, List.set_cons_succ])
      refine wpAnyH_ready (rs := [12]) (by kernel_rfl) (by simp) ?_
      refine AllReadyH.cons (o := _) rfl (fun K hK => ?_) AllReadyH.nil
      go_simp
      refine (HC.out _ HX2.out.log.disk HG2.out).mono ?_
      rintro e w3 ⟨rfl, hd3, ho3⟩
      have HX3 := Lib.hid (HX2.out.put (HX2.out.log.disked hd3 ho3) (Sep.refl _ _) (ho3.mono (fun _ _ h => .inl (.inl h))) rfl rfl (Nat.le_trans hB (Nat.le_trans hs1 hs2)))
      have HB3 : Hid (Below B w w3) := HB2.out.trans (only_below ho3 (fun k hk => HX2.out.low.2 k (.inl (.inl hk))) (Nat.le_trans hB (Nat.le_trans hs1 hs2)))
      have HBB3 := Lib.hid (ho3.blk_ HX2.out.log.disk.kinds HBB2.out (by decide))
      have S3 : Hid (w3.cell? ⟨gx, 0, none⟩ = some (.pointer (some ⟨g, 0, none⟩)) ∧ w3.cell? ⟨gx, 2, none⟩ = some (.int .i64 (l.first : Nat)) ∧ w3.cell? ⟨gx, 3, none⟩ = some (.int .i64 (l.data + 2 : Nat))) := ⟨HX3.out.blk.cell 0, HX3.out.blk.cell 2, HX3.out.blk.cell 3⟩
      obtain ⟨e0, e1, e2, f0, f1, f2⟩ := facts3 HBB3.out
      unfold errA
      clear hd3 ho3
      go_wp2_with fail
      refine hK.out _ _ S3.out (fun hHeld3 => ?_)
      clear hK K
      (try simp only [Act.put, List.getElem_toArray, List.getElem_cons_succ, List.getElem_cons_zero, List.setIfInBounds_toArray, List.set_cons_zero, List.set_cons_succ])
      refine wpAnyH_ready (rs := [14]) (by kernel_rfl) (by simp) ?_
      refine AllReadyH.cons (o := _) rfl (fun K hK => ?_) AllReadyH.nil
      go_simp
      have HB4 : Hid (Below B w (set3 w3 w1.heap.size 0)) := by
        have h1 : B ≤ w1.heap.size := Nat.le_trans hB hs1
        exact ((HB3.out.setCell (p := ⟨w1.heap.size, 0, none⟩) h1 _).setCell (p := ⟨w1.heap.size, 1, none⟩) h1 _).setCell (p := ⟨w1.heap.size, 2, none⟩) h1 _
      have HX4 := Lib.hid (HX3.out.setErr HBB3.out 0)
      refine hK.out _ _ ⟨HX4.out.blk.cell 0, HX4.out.blk.cell 2, HX4.out.blk.cell 3⟩ (fun _ => ?_)
      refine wpAnyH_done (by kernel_rfl) ?_ _
      clear hHeld hHeld2 hHeld3
      go_wp2_with fail
      go_meet
      case rel => exact ⟨_, rfl, HBB3.out.set3 _ _ _, HX4.out, HB4.out⟩
  case rest =>
    obtain ⟨b, rfl, HBE, HXC, HBC⟩ := hcut
    clear S1
    obtain ⟨x0, _, x2, x3, _, _, _, _, _⟩ := facts10 HXC.out.blk
    have SC : Hid (wc.cell? ⟨gx, 0, none⟩ = some (.pointer (some ⟨g, 0, none⟩)) ∧ wc.cell? ⟨gx, 2, none⟩ = some (.int .i64 (l.first : Nat)) ∧ wc.cell? ⟨gx, 3, none⟩ = some (.int .i64 (l.data + 2 : Nat))) := ⟨x0, x2, x3⟩
    clear x0 x2 x3
    have HXC := Lib.hid HXC.out.disk_
    have HXD := Lib.hid (HXC.out.below (w' := wc.drew) (Below.refl _ _).drew)
    have HGC := Lib.hid (HG0.out.belowB HBC.out hGB)
    have HGD := Lib.hid (HGC.out.below (w' := wc.drew) (Below.refl _ _).drew)
    go_upto_region 25 with fail
    go_cut [15, 16] from 129 (fun sl se wx => ∃ gl2 b2 va2 vs2 rd2, sl = .pointer (some ⟨gl2, 0, none⟩) ∧ se = .pointer (some ⟨b2, 0, none⟩) ∧ Hid (Blk wx b 27 [.int .i64 0, .string ⟨#[]⟩, .bool true]) ∧ Hid (Blk wx b2 27 [.int .i64 0, .string ⟨#[]⟩, .bool true]) ∧ Hid (XPre B wx gx g gl gl2 v va2 vall vb vs2 bs d' rd2 l ⟨l.first, l.data + 2 - 2, 1, 0, [], false⟩ ss) ∧ Hid (Below B w wx))
    case first =>
      refine wp_region_held_drew (S := (fun W : World => W.cell? ⟨gx, 0, none⟩ = some (.pointer (some ⟨g, 0, none⟩)) ∧ W.cell? ⟨gx, 2, none⟩ = some (.int .i64 (l.first : Nat)) ∧ W.cell? ⟨gx, 3, none⟩ = some (.int .i64 (l.data + 2 : Nat)))) (by kernel_rfl) SC.out (fun hHeld => ?_)
      refine wpAnyH_take (i := 0) (oi := _) (v := ?_) rfl (by kernel_rfl) (by kernel_rfl) (by kernel_rfl) (fun _ _ _ h => h) (Or.inl ⟨by rfl, ?_⟩) (by assumption) ?_
      rotate_left
      · intro W hSw
        (try dsimp only at hSw)
        go_simp
        rfl
      (try simp only [Act.put, List.getElem_toArray, List.getElem_cons_succ, List.getElem_cons_zero, List.setIfInBounds_toArray, List.set_cons_zero, List.set_cons_succ])
      refine wpAnyH_take (i := 1) (oi := _) (v := ?_) rfl (by kernel_rfl) (by kernel_rfl) (by kernel_rfl) (fun _ _ _ h => h) (Or.inl ⟨by rfl, ?_⟩) (by assumption) ?_
      rotate_left
      · intro W hSw
        (try dsimp only at hSw)
        go_simp
        rfl
      (try simp only [Act.put, List.getElem_toArray, List.getElem_cons_succ, List.getElem_cons_zero, List.setIfInBounds_toArray, List.set_cons_zero, List.set_cons_succ])
      refine wpAnyH_take (i := 2) (oi := _) (v := ?_) rfl (by kernel_rfl) (by kernel_rfl) (by kernel_rfl) (fun _ _ _ h => h) (Or.inl ⟨by rfl, ?_⟩) (by assumption) ?_
      rotate_left
      · intro W hSw
        (try dsimp only at hSw)
        go_simp
        rfl
      (try simp only [Act.put, List.getElem_toArray, List.getElem_cons_succ, List.getElem_cons_zero, List.setIfInBounds_toArray, List.set_cons_zero, List.set_cons_succ])
      refine wpAnyH_take (i := 3) (oi := _) (v := ?_) rfl (by kernel_rfl) (by kernel_rfl) (by kernel_rfl) (fun _ _ _ h => h) (Or.inl ⟨by rfl, ?_⟩) (by assumption) ?_
      rotate_left
      · intro W hSw
        (try dsimp only at hSw)
        go_simp
        rfl
      (try simp only [Act.put, List.getElem_toArray, List.getElem_cons_succ, List.getElem_cons_zero, List.setIfInBounds_toArray, List.set_cons_zero, List.set_cons_succ])
      refine wpAnyH_take (i := 4) (oi := _) (v := ?_) rfl (by kernel_rfl) (by kernel_rfl) (by kernel_rfl) (fun _ _ _ h => h) (Or.inl ⟨by rfl, ?_⟩) (by assumption) ?_
      rotate_left
      · intro W hSw
        (try dsimp only at hSw)
        go_simp
        rfl
      (try simp only [Act.put, List.getElem_toArray, List.getElem_cons_succ, List.getElem_cons_zero, List.setIfInBounds_toArray, List.set_cons_zero, List.set_cons_succ])
      refine wpAnyH_take (i := 5) (oi := _) (v := ?_) rfl (by kernel_rfl) (by kernel_rfl) (by kernel_rfl) (fun _ _ _ h => h) (Or.inl ⟨by rfl, ?_⟩) (by assumption) ?_
      rotate_left
      · intro W hSw
        (try dsimp only at hSw)
        go_simp
        rfl
      (try simp only [Act.put, List.getElem_toArray, List.getElem_cons_succ, List.getElem_cons_zero, List.setIfInBounds_toArray, List.set_cons_zero, List.set_cons_succ])
      refine wpAnyH_take (i := 6) (oi := _) (v := ?_) rfl (by kernel_rfl) (by kernel_rfl) (by kernel_rfl) (fun _ _ _ h => h) (Or.inl ⟨by rfl, ?_⟩) (by assumption) ?_
      rotate_left
      · intro W hSw
        (try dsimp only at hSw)
        go_simp
        rfl
      (try simp only [Act.put, List.getElem_toArray, List.getElem_cons_succ, List.getElem_cons_zero, List.setIfInBounds_toArray, List.set_cons_zero, List.set_cons_succ])
      refine wpAnyH_take (i := 7) (oi := _) (v := ?_) rfl (by kernel_rfl) (by kernel_rfl) (by kernel_rfl) (fun _ _ _ h => h) (Or.inl ⟨by rfl, ?_⟩) (by assumption) ?_
      rotate_left
      · intro W hSw
        (try dsimp only at hSw)
        go_simp
        rfl
      (try simp only [Act.put, List.getElem_toArray, List.getElem_cons_succ, List.getElem_cons_zero, List.setIfInBounds_toArray, List.set_cons_zero, List.set_cons_succ])
      refine wpAnyH_take (i := 8) (oi := _) (v := ?_) rfl (by kernel_rfl) (by kernel_rfl) (by kernel_rfl) (fun _ _ _ h => h) (Or.inl ⟨by rfl, ?_⟩) (by assumption) ?_
      rotate_left
      · intro W hSw
        (try dsimp only at hSw)
        go_simp
        rfl
      (try simp only [Act.put, List.getElem_toArray, List.getElem_cons_succ, List.getElem_cons_zero, List.setIfInBounds_toArray, List.set_cons_zero, List.set_cons_succ])
      refine wpAnyH_take (i := 9) (oi := _) (v := ?_) rfl (by kernel_rfl) (by kernel_rfl) (by kernel_rfl) (fun _ _ _ h => h) (Or.inl ⟨by rfl, ?_⟩) (by assumption) ?_
      rotate_left
      · intro W hSw
        (try dsimp only at hSw)
        go_simp
        rfl
      (try simp only [Act.put, List.getElem_toArray, List.getElem_cons_succ, List.getElem_cons_zero, List.setIfInBounds_toArray, List.set_cons_zero, List.set_cons_succ])
      refine wpAnyH_take (i := 10) (oi := _) (v := ?_) rfl (by kernel_rfl) (by kernel_rfl) (by kernel_rfl) (fun _ _ _ h => h) (Or.inl ⟨by rfl, ?_⟩) (by assumption) ?_
      rotate_left
      · intro W hSw
        (try dsimp only at hSw)
        go_simp
        rfl
      (try simp only [Act.put, List.getElem_toArray, List.getElem_cons_succ, List.getElem_cons_zero, List.setIfInBounds_toArray, List.set_cons_zero, List.set_cons_succ])
      refine wpAnyH_take (i := 11) (oi := _) (v := ?_) rfl (by kernel_rfl) (by kernel_rfl) (by kernel_rfl) (fun _ _ _ h => h) (Or.inl ⟨by rfl, ?_⟩) (by assumption) ?_
      rotate_left
      · intro W hSw
        (try dsimp only at hSw)
        go_simp
        rfl
      (try simp only [Act.put, List.getElem_toArray, List.getElem_cons_succ, List.getElem_cons_zero, List.setIfInBounds_toArray, List.set_cons_zero, List.set_cons_succ])
      refine wpAnyH_ready (rs := [12, 16]) (by kernel_rfl) (by simp) ?_
      refine AllReadyH.cons (o := _) rfl (fun K hK => ?_) ?_
      · go_simp
        refine (HCO.out _ HXD.out.disk HGD.out).mono ?_
        rintro e w2 ⟨o, rfl, hop2⟩
        have hbe2 : Blk w2 b 27 [.int .i64 0, .string ⟨#[]⟩, .bool true] := by
          obtain ⟨_, _, _, _, _, _, _, _, hon⟩ := hop2
          exact hon.blk_ HXD.out.disk.kinds (HBE.out.below (Below.refl _ _).drew HBE.out.lt) (by decide)
        obtain ⟨gl2, va2, vs2, rd2, rfl, hpre, hb2⟩ := HXD.out.opened hop2 (Nat.le_trans hB HBC.out.size)
        have HBE2 := Lib.hid hbe2
        have HPR2 := Lib.hid hpre
        have HB2 : Hid (Below B w w2) := HBC.out.trans ⟨hb2.os, hb2.tape, hb2.output, hb2.size, hb2.block⟩
        have hs2 := HB2.out.size
        have S2 : Hid (w2.cell? ⟨gx, 0, none⟩ = some (.pointer (some ⟨g, 0, none⟩)) ∧ w2.cell? ⟨gx, 2, none⟩ = some (.int .i64 (l.first : Nat)) ∧ w2.cell? ⟨gx, 3, none⟩ = some (.int .i64 (l.data + 2 : Nat))) := ⟨HPR2.out.blk.cell 0, HPR2.out.blk.cell 2, HPR2.out.blk.cell 3⟩
        unfold errA
        clear hop2 hbe2 hpre hb2
        go_wp2_with fail
        refine hK.out _ _ S2.out (fun hHeld2 => ?_)
        clear hK K
        (try simp only [Act.put, List.getElem_toArray, List.getElem_cons_succ, List.getElem_cons_zero, List.setIfInBounds_toArray, List.set_cons_zero, List.set_cons_succ])
        refine wpAnyH_take (i := 13) (oi := _) (v := ?_) rfl (by kernel_rfl) (by kernel_rfl) (by kernel_rfl) (fun _ _ _ h => h) (Or.inl ⟨by rfl, ?_⟩) (by assumption) ?_
        rotate_left
        · intro W hSw
          (try dsimp only at hSw)
          go_simp
          rfl
        (try simp only [Act.put, List.getElem_toArray, List.getElem_cons_succ, List.getElem_cons_zero, List.setIfInBounds_toArray, List.set_cons_zero, List.set_cons_succ])
        refine wpAnyH_take (i := 14) (oi := _) (v := ?_) rfl (by kernel_rfl) (by kernel_rfl) (by kernel_rfl) (fun _ _ _ h => h) (Or.inl ⟨by rfl, ?_⟩) (by assumption) ?_
        rotate_left
        · intro W hSw
          (try dsimp only at hSw)
          go_simp
          rfl
        (try simp only [Act.put, List.getElem_toArray, List.getElem_cons_succ, List.getElem_cons_zero, List.setIfInBounds_toArray, List.set_cons_zero, List.set_cons_succ])
        refine wpAnyH_take (i := 15) (oi := _) (v := ?_) rfl (by kernel_rfl) (by kernel_rfl) (by kernel_rfl) (fun _ _ _ h => h) (Or.inl ⟨by rfl, ?_⟩) (by assumption) ?_
        rotate_left
        · intro W hSw
          (try dsimp only at hSw)
          go_simp
          rfl
        (try simp only [Act.put, List.getElem_toArray, List.getElem_cons_succ, List.getElem_cons_zero, List.setIfInBounds_toArray, List.set_cons_zero, List.set_cons_succ])
        refine wpAnyH_ready (rs := [16]) (by kernel_rfl) (by simp) ?_
        refine AllReadyH.cons (o := _) rfl (fun K hK => ?_) AllReadyH.nil
        go_simp
        obtain ⟨w3, hw3⟩ : ∃ w3, w2.alloc (.cells #[.int .i64 0, .string ⟨#[]⟩, .bool false] 27) = w3 := ⟨_, rfl⟩
        have hb3 : Below w2.heap.size w2 w3 := by rw [← hw3]; exact (Below.refl _ _).alloc (Nat.le_refl _) _
        have B3 : Blk w3 w2.heap.size 27 [.int .i64 0, .string ⟨#[]⟩, .bool false] := by rw [← hw3]; exact Blk.new w2 27 _
        have HPR3 := Lib.hid (HPR2.out.below hb3)
        have HBE3 := Lib.hid (HBE2.out.below hb3 HBE2.out.lt)
        have HB3 : Hid (Below B w w3) := HB2.out.trans (hb3.mono (Nat.le_trans hB hs2))
        have S3 : Hid (w3.cell? ⟨gx, 0, none⟩ = some (.pointer (some ⟨g, 0, none⟩)) ∧ w3.cell? ⟨gx, 2, none⟩ = some (.int .i64 (l.first : Nat)) ∧ w3.cell? ⟨gx, 3, none⟩ = some (.int .i64 (l.data + 2 : Nat))) := ⟨HPR3.out.blk.cell 0, HPR3.out.blk.cell 2, HPR3.out.blk.cell 3⟩
        obtain ⟨e0, e1, e2, f0, f1, f2⟩ := facts3 B3
        have hne : Hid (b ≠ w2.heap.size) := Nat.ne_of_lt HBE2.out.lt
        have HBB3 := Lib.hid B3
        clear hb3 B3
        rw [hw3]
        refine hK.out _ _ S3.out (fun hHeld3 => ?_)
        clear hK K
        (try simp only [Act.put, List.getElem_toArray, List.getElem_cons_succ, List.getElem_cons_zero, List.setIfInBounds_toArray, List.set_cons_zero, List.set_cons_succ])
        refine wpAnyH_take (i := 17) (oi := _) (v := ?_) rfl (by kernel_rfl) (by kernel_rfl) (by kernel_rfl) (fun _ _ _ h => h) (Or.inl ⟨by rfl, ?_⟩) (by assumption) ?_
        rotate_left
        · intro W hSw
          (try dsimp only at hSw)
          go_simp
          rfl
        (try simp only [Act.put, List.getElem_toArray, List.getElem_cons_succ, List.getElem_cons_zero, List.setIfInBounds_toArray, List.set_cons_zero, List.set_cons_succ])
        refine wpAnyH_ready (rs := [18]) (by kernel_rfl) (by simp) ?_
        refine AllReadyH.cons (o := _) rfl (fun K hK => ?_) AllReadyH.nil
        go_simp
        have HB4 : Hid (Below B w (set3 w3 w2.heap.size 0)) := by
          have h1 : B ≤ w2.heap.size := Nat.le_trans hB hs2
          exact ((HB3.out.setCell (p := ⟨w2.heap.size, 0, none⟩) h1 _).setCell (p := ⟨w2.heap.size, 1, none⟩) h1 _).setCell (p := ⟨w2.heap.size, 2, none⟩) h1 _
        have HPR4 := Lib.hid (HPR3.out.setErr HBB3.out 0)
        have HBE4 := Lib.hid (HBE3.out.off3 w2.heap.size 0 hne.out)
        refine hK.out _ _ ⟨HPR4.out.blk.cell 0, HPR4.out.blk.cell 2, HPR4.out.blk.cell 3⟩ (fun _ => ?_)
        refine wpAnyH_done (by kernel_rfl) ?_ _
        clear hHeld hHeld2 hHeld3
        go_wp2_with fail
        go_meet
        case rel => exact ⟨_, _, _, _, _, rfl, rfl, HBE4.out, HBB3.out.set3 _ _ _, HPR4.out, HB4.out⟩
      · refine AllReadyH.cons (o := _) rfl (fun K hK => ?_) AllReadyH.nil
        go_simp
        obtain ⟨w2, hw2⟩ : ∃ w2, (wc.alloc (.cells #[.int .i64 0, .string ⟨#[]⟩, .bool false] 27)).drew = w2 := ⟨_, rfl⟩
        have hb2 : Below wc.heap.size wc w2 := by rw [← hw2]; exact Below.drew ((Below.refl _ _).alloc (Nat.le_refl _) _)
        have B2 : Blk w2 wc.heap.size 27 [.int .i64 0, .string ⟨#[]⟩, .bool false] := by rw [← hw2]; exact Blk.new wc 27 _
        have HX2 := Lib.hid (HXC.out.below hb2)
        have HBE2 := Lib.hid (HBE.out.below hb2 HBE.out.lt)
        have HB2 : Hid (Below B w w2) := HBC.out.trans (hb2.mono (Nat.le_trans hB HBC.out.size))
        have HG2 := Lib.hid (HGC.out.below hb2)
        have HBB2 := Lib.hid B2
        have hne : Hid (b ≠ wc.heap.size) := Nat.ne_of_lt HBE.out.lt
        have hs2 := HB2.out.size
        have hsc := HBC.out.size
        have S2 : Hid (w2.cell? ⟨gx, 0, none⟩ = some (.pointer (some ⟨g, 0, none⟩)) ∧ w2.cell? ⟨gx, 2, none⟩ = some (.int .i64 (l.first : Nat)) ∧ w2.cell? ⟨gx, 3, none⟩ = some (.int .i64 (l.data + 2 : Nat))) := ⟨HX2.out.blk.cell 0, HX2.out.blk.cell 2, HX2.out.blk.cell 3⟩
        rw [hw2]
        clear hb2 B2 hw2
        refine hK.out _ _ S2.out (fun hHeld2 => ?_)
        clear hK K
        (try simp only [Act.put, List.getElem_toArray, List.getElem_cons_succ, List.getElem_cons_zero, List.setIfInBounds_toArray, List.set_cons_zero, List.set_cons_succ])
        refine wpAnyH_ready (rs := [12]) (by kernel_rfl) (by simp) ?_
        refine AllReadyH.cons (o := _) rfl (fun K hK => ?_) AllReadyH.nil
        go_simp
        refine (HCO.out _ HX2.out.disk HG2.out).mono ?_
        rintro e w3 ⟨o, rfl, hop3⟩
        have hbe3 : Blk w3 b 27 [.int .i64 0, .string ⟨#[]⟩, .bool true] ∧ Blk w3 wc.heap.size 27 [.int .i64 0, .string ⟨#[]⟩, .bool false] := by
          obtain ⟨_, _, _, _, _, _, _, _, hon⟩ := hop3
          exact ⟨hon.blk_ HX2.out.disk.kinds HBE2.out (by decide), hon.blk_ HX2.out.disk.kinds HBB2.out (by decide)⟩
        obtain ⟨gl2, va2, vs2, rd2, rfl, hpre, hb3⟩ := HX2.out.opened hop3 (Nat.le_trans hB hs2)
        have HBE3 := Lib.hid hbe3.1
        have HBB3 := Lib.hid hbe3.2
        have HPR3 := Lib.hid hpre
        have HB3 : Hid (Below B w w3) := HB2.out.trans hb3
        have S3 : Hid (w3.cell? ⟨gx, 0, none⟩ = some (.pointer (some ⟨g, 0, none⟩)) ∧ w3.cell? ⟨gx, 2, none⟩ = some (.int .i64 (l.first : Nat)) ∧ w3.cell? ⟨gx, 3, none⟩ = some (.int .i64 (l.data + 2 : Nat))) := ⟨HPR3.out.blk.cell 0, HPR3.out.blk.cell 2, HPR3.out.blk.cell 3⟩
        obtain ⟨e0, e1, e2, f0, f1, f2⟩ := facts3 hbe3.2
        unfold errA
        clear hop3 hbe3 hpre hb3
        go_wp2_with fail
        refine hK.out _ _ S3.out (fun hHeld3 => ?_)
        clear hK K
        (try simp only [Act.put, List.getElem_toArray, List.getElem_cons_succ, List.getElem_cons_zero, List.setIfInBounds_toArray, List.set_cons_zero, List.set_cons_succ])
        refine wpAnyH_take (i := 13) (oi := _) (v := ?_) rfl (by kernel_rfl) (by kernel_rfl) (by kernel_rfl) (fun _ _ _ h => h) (Or.inl ⟨by rfl, ?_⟩) (by assumption) ?_
        rotate_left
        · intro W hSw
          (try dsimp only at hSw)
          go_simp
          rfl
        (try simp only [Act.put, List.getElem_toArray, List.getElem_cons_succ, List.getElem_cons_zero, List.setIfInBounds_toArray, List.set_cons_zero, List.set_cons_succ])
        refine wpAnyH_take (i := 14) (oi := _) (v := ?_) rfl (by kernel_rfl) (by kernel_rfl) (by kernel_rfl) (fun _ _ _ h => h) (Or.inl ⟨by rfl, ?_⟩) (by assumption) ?_
        rotate_left
        · intro W hSw
          (try dsimp only at hSw)
          go_simp
          rfl
        (try simp only [Act.put, List.getElem_toArray, List.getElem_cons_succ, List.getElem_cons_zero, List.setIfInBounds_toArray, List.set_cons_zero, List.set_cons_succ])
        refine wpAnyH_take (i := 15) (oi := _) (v := ?_) rfl (by kernel_rfl) (by kernel_rfl) (by kernel_rfl) (fun _ _ _ h => h) (Or.inl ⟨by rfl, ?_⟩) (by assumption) ?_
        rotate_left
        · intro W hSw
          (try dsimp only at hSw)
          go_simp
          rfl
        (try simp only [Act.put, List.getElem_toArray, List.getElem_cons_succ, List.getElem_cons_zero, List.setIfInBounds_toArray, List.set_cons_zero, List.set_cons_succ])
        refine wpAnyH_take (i := 17) (oi := _) (v := ?_) rfl (by kernel_rfl) (by kernel_rfl) (by kernel_rfl) (fun _ _ _ h => h) (Or.inl ⟨by rfl, ?_⟩) (by assumption) ?_
        rotate_left
        · intro W hSw
          (try dsimp only at hSw)
          go_simp
          rfl
        (try simp only [Act.put, List.getElem_toArray, List.getElem_cons_succ, List.getElem_cons_zero, List.setIfInBounds_toArray, List.set_cons_zero, List.set_cons_succ])
        refine wpAnyH_ready (rs := [18]) (by kernel_rfl) (by simp) ?_
        refine AllReadyH.cons (o := _) rfl (fun K hK => ?_) AllReadyH.nil
        go_simp
        have HB4 : Hid (Below B w (set3 w3 wc.heap.size 0)) := by
          have h1 : B ≤ wc.heap.size := Nat.le_trans hB hsc
          exact ((HB3.out.setCell (p := ⟨wc.heap.size, 0, none⟩) h1 _).setCell (p := ⟨wc.heap.size, 1, none⟩) h1 _).setCell (p := ⟨wc.heap.size, 2, none⟩) h1 _
        have HPR4 := Lib.hid (HPR3.out.setErr HBB3.out 0)
        have HBE4 := Lib.hid (HBE3.out.off3 wc.heap.size 0 hne.out)
        refine hK.out _ _ ⟨HPR4.out.blk.cell 0, HPR4.out.blk.cell 2, HPR4.out.blk.cell 3⟩ (fun _ => ?_)
        refine wpAnyH_done (by kernel_rfl) ?_ _
        clear hHeld hHeld2 hHeld3
        go_wp2_with fail
        go_meet
        case rel => exact ⟨_, _, _, _, _, rfl, rfl, HBE4.out, HBB3.out.set3 _ _ _, HPR4.out, HB4.out⟩
    case rest =>
      obtain ⟨gl2, b2, va2, vs2, rd2, rfl, rfl, HBE2, HBF, HPR, HBB⟩ := hcut
      obtain ⟨x0, x1, _, _, x4, _, y0, y1, y4⟩ := facts10 HPR.out.blk
      obtain ⟨e0, e1, e2, _, _, _⟩ := facts3 HBE2.out
      obtain ⟨u0, u1, u2, _, _, _⟩ := facts3 HBF.out
      have hne1 : gx ≠ b := fun e => by
        have := HPR.out.blk.typ.uniq (e ▸ HBE2.out.typ)
        revert this
        decide
      have hne2 : gx ≠ b2 := fun e => by
        have := HPR.out.blk.typ.uniq (e ▸ HBF.out.typ)
        revert this
        decide
      have hbb := HBB.out.size
      have hgx := HPR.out.low.1
      go_wp2_with fail
      refine (bare_same 0 _).mono ?_
      rintro e w4 ⟨rfl, hb4⟩
      have HX4 := Lib.hid (((HPR.out.taken rfl (by show l.data + 2 - 2 = l.data; omega)).setAll (.slice none 0 0) [] (World.ownsRow_nil _ _ _ _)).below hb4)
      have HBF4 := Lib.hid (((((Only.refl (· = gx) wc).setCell (p := ⟨gx, 1, none⟩) (.inl rfl) (.pointer (some ⟨gl2, 0, none⟩))).setCell (p := ⟨gx, 4, none⟩) (.inl rfl) (.slice none 0 0)).blk HBF.out hne2.symm).below hb4 (by simpa [World.setCell] using HBF.out.lt))
      have HB4 : Hid (Below B w w4) := ((HBB.out.setCell (p := ⟨gx, 1, none⟩) hgx _).setCell (p := ⟨gx, 4, none⟩) hgx _).trans (hb4.mono (by simpa [World.setCell] using Nat.le_trans hB hbb))
      clear hb4 x0 x1 x4 y0 y1 y4 e0 e1 e2 u0 u1 u2
      obtain ⟨u0, u1, u2, _, _, _⟩ := facts3 HBF4.out
      go_wp2_with fail
      refine (bare_same 0 _).mono ?_
      rintro e w5 ⟨rfl, hb5⟩
      have h45 := HB4.out.size
      have HX5 := Lib.hid ((HX4.out.below hb5).at_ (show bl [] = [] from rfl))
      have HB5 : Hid (Below B w w5) := HB4.out.trans (hb5.mono (Nat.le_trans hB h45))
      have h55 := HB5.out.size
      have HSA := Lib.hid (same_any B w5 gx g gl2 v va2 (.slice none 0 0) vb vs2 bs d' rd2 ⟨l.first, l.data + 2 - 2, 1, 0, [], false⟩ [] HX5.out (by simp) (by simp) (by omega) (Nat.le_trans hB h55))
      clear hb5 u0 u1 u2
      go_wp2_with fail
      refine HSA.out.mono ?_
      rintro e w6 ⟨rfl, vb', bs', hX6, hbl, hb6⟩
      have HX6 := Lib.hid hX6
      have HB6 : Hid (Below B w w6) := HB5.out.trans hb6
      have hbl6 : bs'.length = bs.length := by simpa using hbl
      clear hX6 hb6 hbl
      go_wp2_with fail
      go_ret
      exact ⟨rfl, ⟨g, gl2, v, va2, _, vb', vs2, bs', d', rd2, _, [], HX6.out, HOK.out, hf, by show l.data + 2 - 2 + 2 = sectors; omega, by omega, by show 1 ≤ _; omega⟩, HB6.out⟩
end Go.Proofs.YtljmklohgpaopaaDoor
