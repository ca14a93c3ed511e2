/- The harness's step on a log: Append that is done. Package plain's CreateLog and OpenLog, of a place that may be taken. The harness's log, of which the disk alone is looked at; another log is opened on it. -/
import Derived.Test.YtljmklohgpaopaaDoorMgLogs20

namespace Go.Proofs.YtljmklohgpaopaaDoor
open Go.RowKit

theorem Tryd.infoString : (Tryd.prog.info? 9).map (fun i => (i.zero, i.size, i.bytes)) = some (some (.string ⟨#[]⟩), 1, 16) := by kernel_rfl
theorem string_room {n m : Nat} (h : n + m ≤ 4398046511104) : ∀ old, old < n + m → Builtin.nextslicecap (n + m) old * 16 ≤ 281474976710656 := by
  intro old ho
  have := nextslicecap_le54 ho
  omega
/-- What it must have has grown. -/
theorem XCore.grewAll {B : Nat} {w w' : World} {gx g gl : Nat} {v va vall vb v8 : Value} {vs bs : List Value} {d : Pl.Dk} {rd : Int} {l : Pl.Lg} {ss ss' : List ByteArray} (h : XCore B w gx g gl v va vall vb vs bs d rd l ss) (hg : w.grownBy w' vall.ownBlock) (hown : w'.ownsRow B 9 1 v8 ss'.length (sv ss')) :
    XCore B (w'.setCell ⟨gx, 4, none⟩ v8) gx g gl v va v8 vb vs bs d rd l ss' ∧ Blk w' gx 54 (xCells g gl l vall vb) ∧ Only (fun x => vall.ownBlock = some x) w w' := by
  have ho : Only (fun x => vall.ownBlock = some x) w w' := Only.of_grown_own hg
  have hk : Kinds (fun x => vall.ownBlock = some x) w [9] := fun x hx => ⟨_, by simp, own_typ h.all hx⟩
  have hb := ho.blk_ hk h.blk (by decide)
  have hlog : LogSt w' gl g v va vs d rd l := h.log.onlyT ho hk (by decide) (by decide) (by decide) (by decide) (by decide)
  have ho2 : Only (· = gx) w' (w'.setCell ⟨gx, 4, none⟩ v8) := (Only.refl (· = gx) w').setCell (p := ⟨gx, 4, none⟩) (.inl rfl) _
  have hk2 : Kinds (· = gx) w' [54] := fun x hx => by
    rw [hx]
    exact ⟨_, by simp, hb.typ⟩
  exact ⟨⟨hb.set_ 4 _, hlog.onlyT ho2 hk2 (by decide) (by decide) (by decide) (by decide) (by decide), ho2.own_ hk2 hown (by decide), ⟨ho2.own_ hk2 (ho.own_ hk h.book.own (by decide)) (by decide), fun i u hu => by
    obtain ⟨c, hc⟩ := h.book.each i u hu
    exact ⟨c, ho2.own_ hk2 (ho.own_ hk hc (by decide)) (by decide)⟩⟩, h.low, h.apart⟩, hb, ho⟩

set_option maxHeartbeats 2000000 in
set_option maxRecDepth 100000 in
theorem step_append_ok (B gx first sectors m : Nat) (n : Int) (s t : ByteArray) (w : World) (g gl : Nat) (v va vall vb : Value) (vs bs : List Value) (d : Pl.Dk) (rd : Int) (l : Pl.Lg) (ss : List ByteArray) (hx : XAt B w gx g gl v va vall vb vs bs d rd l ss) (hok : Pl.LogOk d l) (hf : l.first = first) (hd : l.data + 2 = sectors) (hbs : bs.length ≤ 5000 * m) (hep : l.epoch ≤ m + 1)
    (hG : GE w) (hGB : 0 < B) (hB : B ≤ w.heap.size) (hm : m ≤ 65536) (hsz : s.size ≤ 140737488351232) (h1 : 1 ≤ s.size) (h2 : s.size ≤ 2000) (hcase : l.next + Pl.chunks s.size ≤ l.data) :
    Calls Tryd.prog 18 #[.pointer (some ⟨gx, 0, none⟩), moveV 1 n s t] w (StepPost B gx first sectors m w) := by
  unfold moveV
  obtain ⟨w1, hw1⟩ : ∃ w1, w.alloc (.cells #[.int .i64 1, .int .i64 n, .string s, .string t] 57) = w1 := ⟨_, rfl⟩
  have hb1 : Below w.heap.size w w1 := by rw [← hw1]; exact (Below.refl _ _).alloc (Nat.le_refl _) _
  have BM : Blk w1 w.heap.size 57 [.int .i64 1, .int .i64 n, .string s, .string t] := by rw [← hw1]; exact Blk.new w 57 _
  have cM0 := BM.cell 0
  have cM2 := BM.cell 2
  simp only [List.getElem?_cons_zero, List.getElem?_cons_succ] at cM0 cM2
  have hx1 := hx.core.below hb1
  have hs1 := hb1.size
  obtain ⟨w2, hw2⟩ : ∃ w2, w1.alloc (.cells (lentRow s.data.toList).toArray 5) = w2 := ⟨_, rfl⟩
  have hb2 : Below w1.heap.size w1 w2 := by rw [← hw2]; exact (Below.refl _ _).alloc (Nat.le_refl _) _
  have BG : Blk w2 w1.heap.size 5 (lentRow s.data.toList) := by rw [← hw2]; exact Blk.new w1 5 _
  have hs2 := hb2.size
  obtain ⟨gb, hgb⟩ : ∃ gb, w1.heap.size = gb := ⟨_, rfl⟩
  rw [hgb] at BG
  have hx2 := hx1.below hb2
  have BM2 := BM.below hb2 BM.lt
  have cN2 := BM2.cell 2
  simp only [List.getElem?_cons_zero, List.getElem?_cons_succ] at cN2
  obtain ⟨x0, x1, x2, x3, x4, x5, y0, y1, y4⟩ := facts10 hx2.blk
  have hgf : ¬ lFa gl g v va 0 := fun e => by have := hx2.low.2 _ e; omega
  have hsl : s.data.toList.length = s.size := rfl
  have hby : BytesAt w2 (some ⟨gb, 0, none⟩) s.data.toList := by
    refine .inr ⟨gb, 0, rfl, fun i hi => ?_⟩
    rw [Nat.zero_add, BG.cell, lentRow, bv_append, List.getElem?_append_left (by simpa using hi), getb _ i hi]
  have hnl : ¬ lFa gl g v va gb := lFa_kinds_off hx2.log BG (by decide)
  have hsm := hx2.log.cells.small
  have hrows := LogOk_rows hok
  have hL := Lib.hid (lent_any s w1 (by omega))
  have hP := pAppend_any gl g v va vs d rd l s.data.toList (some ⟨gb, 0, none⟩) (s.size + 2) w2 hx2.log ((hG.below hb1).below hb2) hgf hby (fun q hq => by injection hq with hq; subst hq; exact ⟨BG.lt, hnl⟩) (by rw [hsl]; omega) (by rw [hsl]; omega) hok.room (by omega)
  obtain ⟨d', hres, _, hok'⟩ := hok.appends s.data.toList (by rw [hsl]; exact h1) (by rw [hsl]; exact h2) (by rw [hsl]; exact hcase)
  have HOK2 := Lib.hid hok'
  clear hok'
  rw [hres, hsl] at hP
  have HP := Lib.hid hP
  have HX1 := Lib.hid hx1
  have HX2 := Lib.hid hx2
  have HB1 := Lib.hid hb1
  have HB2 := Lib.hid hb2
  have HBM2 := Lib.hid BM2
  have HBG := Lib.hid BG
  have HOK := Lib.hid hok
  have HSM := Lib.hid hx.same
  have HW2 := Lib.hid hw2
  clear hx hb1 hb2 hx1 hx2 hP hok hG hby hw2 hres BG BM2 BM
  go_enter Tryd.func18, Tryd.ntmps18
  go_wp2_with fail
  refine hL.out.mono ?_
  rintro e w' ⟨rfl, rfl⟩
  rw [HW2.out, hgb]
  go_wp2_with fail
  refine HP.out.mono ?_
  rintro e w3 ⟨rfl, va', vs', hst, hsep, hrs, ho⟩
  have hB2 : B ≤ w2.heap.size := Nat.le_trans hB (Nat.le_trans hs1 hs2)
  have hX3 := HX2.out.put hst hsep ho rfl rfl hB2
  have HBL3 : Hid (Below B w w3) := ((HB1.out.mono hB).trans (HB2.out.mono (Nat.le_trans hB hs1))).trans (only_below ho HX2.out.low.2 hB2)
  have hBG3 := ho.blk_ HX2.out.log.kinds HBG.out (by decide)
  have hBM3 := ho.blk_ HX2.out.log.kinds HBM2.out (by decide)
  have hv1 : ∀ u ∈ vs', u.ownBlock ≠ some gb := fun u hu e => by
    have hl : gb < w2.heap.size := HBG.out.lt
    obtain ⟨j, hj⟩ := List.getElem?_of_mem (hrs u hu gb e hl _ vs HX2.out.log.rows.own)
    have hjl : j < l.all.length := by
      have h1 := (List.getElem?_eq_some_iff.1 hj).1
      have h2 : vs.length = l.all.length := by simpa using HX1.out.log.rows.own.1
      omega
    have := ((HX1.out.log.rows.each j u _ hj (List.getElem?_eq_getElem hjl)).lt gb e).2
    omega
  have hv2 : ∀ u ∈ bs, u.ownBlock ≠ some gb := fun u hu e => by
    have := (HX1.out.book.lt gb (.inr ⟨u, hu, e⟩)).2
    omega
  obtain ⟨w4, hw4⟩ : ∃ w4, w3.alloc (.cells #[.int .i64 0, .string ⟨#[]⟩, .bool true] 27) = w4 := ⟨_, rfl⟩
  have hb4 : Below w3.heap.size w3 w4 := by rw [← hw4]; exact (Below.refl _ _).alloc (Nat.le_refl _) _
  have BE : Blk w4 w3.heap.size 27 [.int .i64 0, .string ⟨#[]⟩, .bool true] := by rw [← hw4]; exact Blk.new w3 27 _
  have hX4 := hX3.below hb4
  have hBG4 := hBG3.below hb4 hBG3.lt
  have hBM4 := hBM3.below hb4 hBM3.lt
  have HX4 := Lib.hid hX4
  have HBG4 := Lib.hid hBG4
  have HBM4 := Lib.hid hBM4
  have HBE4 := Lib.hid BE
  have HV1 := Lib.hid hv1
  have HV2 := Lib.hid hv2
  have HBL4 : Hid (Below B w w4) := HBL3.out.trans (hb4.mono (Nat.le_trans hB HBL3.out.size))
  have cQ2 := hBM4.cell 2
  simp only [List.getElem?_cons_zero, List.getElem?_cons_succ] at cQ2
  have HST4 := Lib.hid (stays_any gb s w4 (by omega) hBG4)
  unfold errA
  clear hst hsep hrs ho hX3 hBG3 hBM3 hv1 hv2 hb4 BE hX4 hBG4 hBM4 cM0 cM2 cN2 x0 x1 x2 x3 x4 x5 y0 y1 y4
  go_wp2_with fail
  refine HST4.out.mono ?_
  rintro e w5 ⟨rfl, hg5, cs5, _, hBG5⟩
  have ho5 := stays_only hg5
  have hk5 : Kinds (· = gb) w4 [5] := fun x hx => by
    rw [hx]
    exact ⟨_, by simp, HBG4.out.typ⟩
  have hX5 := HX4.out.onlyG HBG4.out ho5 HV1.out HV2.out
  have HX5 := Lib.hid hX5
  have hBM5 := ho5.blk_ hk5 HBM4.out (by decide)
  have hBE5 := ho5.blk_ hk5 HBE4.out (by decide)
  have c52 := hBM5.cell 2
  simp only [List.getElem?_cons_zero, List.getElem?_cons_succ] at c52
  obtain ⟨e50, e51, e52, _, _, _⟩ := facts3 hBE5
  obtain ⟨x0, x1, x2, x3, x4, x5, y0, y1, y4⟩ := facts10 hX5.blk
  have hgB : B ≤ gb := by omega
  have HBL5 : Hid (Below B w w5) := HBL4.out.trans (only_below ho5 (fun k hk => by rw [hk]; exact hgB) (Nat.le_trans hB HBL4.out.size))
  have HBM5 := Lib.hid hBM5
  have HBE5 := Lib.hid hBE5
  clear hg5 ho5 hk5 hX5 hBM5 hBE5 hBG5 cQ2
  have q := not_empty s h1
  have q2 : ¬ (2000 : Int) < (s.size : Int) := by omega
  have q2d : decide ((2000 : Int) < (s.size : Int)) = false := decide_eq_false q2
  have hsn : ss.length = l.all.length := by rw [← HSM.out]; simp [bl]
  have h63 : Hid (ss.length + 1 ≤ maxLen) := by rw [Hid]; simp only [maxLen]; omega
  have hroom := Lib.hid (string_room (n := ss.length) (m := 1) (by omega))
  clear hsn
  obtain ⟨Aa, capa, rfl, _, _, _⟩ := own_src HX5.out.all
  obtain ⟨i0, hi, hz0, hz1, hz2⟩ := info_parts Tryd.infoString
  have HI := Lib.hid (And.intro hi (And.intro hz0 (And.intro hz1 hz2)))
  clear hi hz0 hz1 hz2
  go_wp2_with fail
  refine (bare_other 0 5 _ (by decide)).mono ?_
  rintro e w6 ⟨rfl, hb6⟩
  have hX6 := HX5.out.below hb6
  have HX6 := Lib.hid hX6
  have HBL6 : Hid (Below B w w6) := HBL5.out.trans (hb6.mono (Nat.le_trans hB HBL5.out.size))
  have hBM6 := HBM5.out.below hb6 HBM5.out.lt
  have HBM6 := Lib.hid hBM6
  have HBE6 := Lib.hid (HBE5.out.below hb6 HBE5.out.lt)
  have c62 := hBM6.cell 2
  simp only [List.getElem?_cons_zero, List.getElem?_cons_succ] at c62
  obtain ⟨_, _, _, _, z4, _, _, _, _⟩ := facts10 hX6.blk
  have hS : w6.cell? ⟨gx, 4, none⟩ = some (.slice Aa ss.length capa) ∧ w6.cell? ⟨w.heap.size, 2, none⟩ = some (.string s) := ⟨z4, c62⟩
  have S6 := Lib.hid hS
  clear hb6 hX6 hBM6 c62 z4 hS x0 x1 x2 x3 x4 x5 y0 y1 y4 c52 e50 e51 e52
  go_wp2_with fail
  refine wp_region_held_drew (S := fun W : World => W.cell? ⟨gx, 4, none⟩ = some (.slice Aa ss.length capa) ∧ W.cell? ⟨w.heap.size, 2, none⟩ = some (.string s)) (by kernel_rfl) S6.out (fun hHeld => ?_)
  refine wpAnyH_take (i := 0) (oi := _) (v := ?_) rfl (by kernel_rfl) (by kernel_rfl) (by kernel_rfl) (fun _ _ _ h => h) (Or.inl ⟨by rfl, ?_⟩) (by assumption) ?_
  rotate_left
  · intro W hSw
    (try dsimp only at hSw)
    go_simp
    rfl
  (try simp only [Act.put, List.getElem_toArray, List.getElem_cons_succ, List.getElem_cons_zero, List.setIfInBounds_toArray, List.set_cons_zero, List.set_cons_succ])
  refine wpAnyH_take (i := 1) (oi := _) (v := ?_) rfl (by kernel_rfl) (by kernel_rfl) (by kernel_rfl) (fun _ _ _ h => h) (Or.inl ⟨by rfl, ?_⟩) (by assumption) ?_
  rotate_left
  · intro W hSw
    (try dsimp only at hSw)
    go_simp
    rfl
  (try simp only [Act.put, List.getElem_toArray, List.getElem_cons_succ, List.getElem_cons_zero, List.setIfInBounds_toArray, List.set_cons_zero, List.set_cons_succ])
  refine wpAnyH_take (i := 2) (oi := _) (v := ?_) rfl (by kernel_rfl) (by kernel_rfl) (by kernel_rfl) (fun _ _ _ h => h) (Or.inl ⟨by rfl, ?_⟩) (by assumption) ?_
  rotate_left
  · intro W hSw
    (try dsimp only at hSw)
    go_simp
    rfl
  (try simp only [Act.put, List.getElem_toArray, List.getElem_cons_succ, List.getElem_cons_zero, List.setIfInBounds_toArray, List.set_cons_zero, List.set_cons_succ])
  refine wpAnyH_take (i := 3) (oi := _) (v := ?_) rfl (by kernel_rfl) (by kernel_rfl) (by kernel_rfl) (fun _ _ _ h => h) (Or.inl ⟨by rfl, ?_⟩) (by assumption) ?_
  rotate_left
  · intro W hSw
    (try dsimp only at hSw)
    go_simp
    rfl
  (try simp only [Act.put, List.getElem_toArray, List.getElem_cons_succ, List.getElem_cons_zero, List.setIfInBounds_toArray, List.set_cons_zero, List.set_cons_succ])
  refine wpAnyH_take (i := 4) (oi := _) (v := ?_) rfl (by kernel_rfl) (by kernel_rfl) (by kernel_rfl) (fun _ _ _ h => h) (Or.inl ⟨by rfl, ?_⟩) (by assumption) ?_
  rotate_left
  · intro W hSw
    (try dsimp only at hSw)
    go_simp
    rfl
  (try simp only [Act.put, List.getElem_toArray, List.getElem_cons_succ, List.getElem_cons_zero, List.setIfInBounds_toArray, List.set_cons_zero, List.set_cons_succ])
  refine wpAnyH_take (i := 5) (oi := _) (v := ?_) rfl (by kernel_rfl) (by kernel_rfl) (by kernel_rfl) (fun _ _ _ h => h) (Or.inl ⟨by rfl, ?_⟩) (by assumption) ?_
  rotate_left
  · intro W hSw
    (try dsimp only at hSw)
    go_simp
    rfl
  (try simp only [Act.put, List.getElem_toArray, List.getElem_cons_succ, List.getElem_cons_zero, List.setIfInBounds_toArray, List.set_cons_zero, List.set_cons_succ])
  refine wpAnyH_ready (rs := [6]) (by kernel_rfl) (by simp) ?_
  refine AllReadyH.cons (o := _) rfl (fun K hK => ?_) AllReadyH.nil
  go_simp
  obtain ⟨w7, hw7⟩ : ∃ w7, (w6.alloc (.cells #[.string s] 9)).drew = w7 := ⟨_, rfl⟩
  have hb7 : Below w6.heap.size w6 w7 := by rw [← hw7]; exact Below.drew ((Below.refl _ _).alloc (Nat.le_refl _) _)
  have HSR7 : Hid (Src w7 (some ⟨w6.heap.size, 0, none⟩) [.string s]) := by rw [Hid, ← hw7]; exact Src.of_blk (w := (w6.alloc (.cells #[.string s] 9)).drew) (Blk.new w6 9 [.string s])
  have HX7 := Lib.hid (HX6.out.below hb7)
  have HBM7 := Lib.hid (HBM6.out.below hb7 HBM6.out.lt)
  have HBE7 := Lib.hid (HBE6.out.below hb7 HBE6.out.lt)
  have HBL7 : Hid (Below B w w7) := HBL6.out.trans (hb7.mono (Nat.le_trans hB HBL6.out.size))
  have S7 : Hid (w7.cell? ⟨gx, 4, none⟩ = some (.slice Aa ss.length capa) ∧ w7.cell? ⟨w.heap.size, 2, none⟩ = some (.string s)) := ⟨HX7.out.blk.cell 4, HBM7.out.cell 2⟩
  have hs7 := HBL7.out.size
  rw [hw7]
  clear hb7 hw7
  refine hK.out _ _ S7.out (fun hHeld7 => ?_)
  clear hK K
  (try simp only [Act.put, List.getElem_toArray, List.getElem_cons_succ, List.getElem_cons_zero, List.setIfInBounds_toArray, List.set_cons_zero, List.set_cons_succ])
  refine wpAnyH_ready (rs := [7]) (by kernel_rfl) (by simp) ?_
  refine AllReadyH.cons (o := _) rfl (fun K hK => ?_) AllReadyH.nil
  refine step_append_src _ rfl (.tmp 78) (.tmp 81) 45 rfl B 9 i0 (.string ⟨#[]⟩) 1 16 Tryd.underlying45 HI.out.1 HI.out.2.1 HI.out.2.2.1 HI.out.2.2.2 rfl (by decide) (.slice Aa ss.length capa) ss.length (sv ss) rfl HX7.out.all (some ⟨w6.heap.size, 0, none⟩) 1 1 [.string s] rfl rfl HSR7.out (by intro u hu; simp at hu; subst hu; rfl) h63.out hroom.out (Nat.le_trans hB hs7) ?_
  intro v8 w8 hown8 hgrow8 hat8
  have hown9 : w8.ownsRow B 9 1 v8 (ss ++ [s]).length (sv (ss ++ [s])) := by
    have : sv (ss ++ [s]) = sv ss ++ [.string s] := by simp [sv]
    rw [this, List.length_append]
    exact hown8
  have hGA := HX7.out.grewAll hgrow8 hown9
  have hk8 : Kinds (fun x => (Value.slice Aa ss.length capa).ownBlock = some x) w7 [9] := fun x hx => ⟨_, by simp, own_typ HX7.out.all hx⟩
  have hBM8 := hGA.2.2.blk_ hk8 HBM7.out (by decide)
  have hBE8 := hGA.2.2.blk_ hk8 HBE7.out (by decide)
  have HBL8 : Hid (Below B w w8) := HBL7.out.trans (only_below hGA.2.2 (fun k hk => (HX7.out.all.lt k hk).1) (Nat.le_trans hB hs7))
  have S8 : Hid (w8.cell? ⟨gx, 4, none⟩ = some (.slice Aa ss.length capa) ∧ w8.cell? ⟨w.heap.size, 2, none⟩ = some (.string s)) := ⟨hGA.2.1.cell 4, hBM8.cell 2⟩
  obtain ⟨A8, cap8, rfl, _, _, _⟩ := own_src hown8
  obtain ⟨u0, _, _, _, u4, _, g0, _, g4⟩ := facts10 hGA.2.1
  obtain ⟨e80, e81, e82, _, _, _⟩ := facts3 hBE8
  have hne8 : gx ≠ w3.heap.size := hGA.2.1.ne hBE8 (by decide)
  have HGA := Lib.hid hGA
  clear hown8 hgrow8 hat8 hown9 hGA hk8 hBM8 hBE8
  refine hK.out _ _ S8.out (fun hHeld8 => ?_)
  clear hK K
  (try simp only [Act.put, List.getElem_toArray, List.getElem_cons_succ, List.getElem_cons_zero, List.setIfInBounds_toArray, List.set_cons_zero, List.set_cons_succ])
  refine wpAnyH_take (i := 8) (oi := _) (v := ?_) rfl (by kernel_rfl) (by kernel_rfl) (by kernel_rfl) (fun _ _ _ h => h) (Or.inl ⟨by rfl, ?_⟩) (by assumption) ?_
  rotate_left
  · intro W hSw
    (try dsimp only at hSw)
    go_simp
    rfl
  (try simp only [Act.put, List.getElem_toArray, List.getElem_cons_succ, List.getElem_cons_zero, List.setIfInBounds_toArray, List.set_cons_zero, List.set_cons_succ])
  refine wpAnyH_done (by kernel_rfl) ?_ _
  clear hHeld hHeld7 hHeld8
  go_wp2_with fail
  refine (bare_same 0 _).mono ?_
  rintro e w9 ⟨rfl, hb9⟩
  have hBs8 : Below B w (w8.setCell ⟨gx, 4, none⟩ (.slice A8 (ss.length + 1) cap8)) := HBL8.out.setCell (p := ⟨gx, 4, none⟩) HX7.out.low.1 _
  have HX9 := Lib.hid (HGA.out.1.below hb9)
  have HBL9 : Hid (Below B w w9) := hBs8.trans (hb9.mono (Nat.le_trans hB hBs8.size))
  clear hb9 hBs8
  go_wp2_with fail
  go_ret
  refine ⟨rfl, ⟨g, gl, v, va', _, vb, vs', bs, d', rd, _, ss ++ [s], HX9.out.at_ ?_, HOK2.out, hf, hd, by omega, by show l.epoch ≤ _; omega⟩, HBL9.out⟩
  show bl (ss ++ [s]) = l.all ++ [s.data.toList]
  rw [← HSM.out]
  simp [bl]
end Go.Proofs.YtljmklohgpaopaaDoor

namespace Go.Proofs.YtljmklohgpaopaaDoor
open Go.RowKit

theorem set3_only {w w3 : World} {F : Nat → Prop} (k : Nat) (h : Only F w w3) : Only F w (set3 w3 w.heap.size k) := only_set3 h _ _ _
theorem DiskAt.set3 {w : World} {b g : Nat} {v a0 a1 a2 : Value} {d : Pl.Dk} {rd : Int} (h : DiskAt w g v d rd) (hb : Blk w b 27 [a0, a1, a2]) (k : Nat) : DiskAt (set3 w b k) g v d rd := by
  have ho : Only (· = b) w (Go.Proofs.YtljmklohgpaopaaDoor.set3 w b k) :=
    (((Only.refl (· = b) w).setCell (p := ⟨b, 0, none⟩) (.inl rfl) _).setCell (p := ⟨b, 1, none⟩) (.inl rfl) _).setCell (p := ⟨b, 2, none⟩) (.inl rfl) _
  have hk : Kinds (· = b) w [27] := fun x hx => by
    rw [hx]
    exact ⟨_, by simp, hb.typ⟩
  exact h.onlyT ho hk (by decide) (by decide)

theorem pCreate_yes (g : Nat) (v : Value) (d d' : Pl.Dk) (rd : Int) (first n k : Nat) (w : World) (h : DiskAt w g v d rd) (hG : GE w) (hGF : ¬ dF g v 0) (hp : placedB d.secs.length first n 4 = true) (hc : Pl.createLog d first n = (d', k)) :
    Calls Tryd.prog 16 #[.pointer (some ⟨g, 0, none⟩), .int .i64 (first : Nat), .int .i64 (n : Nat)] w fun e w' => e = .returned (errA (k : Nat) ⟨#[]⟩) ∧ DiskAt w' g v d' rd ∧ Only (dF g v) w w' := by
  have hb0 : Below w.heap.size w (w.alloc err0) := (Below.refl _ _).alloc (Nat.le_refl _) _
  have B0 : Blk (w.alloc err0) w.heap.size 27 [.int .i64 0, .string ⟨#[]⟩, .bool false] := Blk.new w 27 _
  have h0 := h.below hb0
  have hk := create_kind d first n
  rw [hc] at hk
  refine (pCreate_gen _ _ _ w k hk (fun w2 => DiskAt w2 g v d' rd ∧ Only (dF g v) w w2) ?_).mono ?_
  · refine (wcreate_yes g v d rd first n _ h0 hp).mono ?_
    rintro e w2 ⟨he, hd, ho⟩
    rw [hc] at he hd
    exact ⟨he, ⟨hd, (Only.of_below hb0 (dF g v)).trans' ho⟩, (hG.below hb0).only ho hGF, ho.blk B0 (h0.off B0 (by decide) (by decide))⟩
  · rintro e w' ⟨rfl, w2, w3, ⟨hd, ho⟩, hb, hB, rfl⟩
    exact ⟨rfl, (hd.below hb).set3 hB k, set3_only k (ho.below hb)⟩

/-- The log that is opened. -/
def OpenedAt (g : Nat) (v : Value) (d' : Pl.Dk) (l' : Pl.Lg) (w : World) (o : Option Addr) (w' : World) : Prop :=
  ∃ gl va' vs' rd', o = some ⟨gl, 0, none⟩ ∧ LogSt w' gl g v va' vs' d' rd' l' ∧ w.heap.size ≤ gl ∧ (∀ x, va'.ownBlock = some x → w.heap.size ≤ x) ∧ Only (dF g v) w w'
theorem pOpen_yes (g : Nat) (v : Value) (d d' : Pl.Dk) (rd : Int) (first n : Nat) (l' : Pl.Lg) (w : World) (h : DiskAt w g v d rd) (hG : GE w) (hGF : ¬ dF g v 0) (hp : placedB d.secs.length first n 4 = true) (hc : Pl.openLog d first n = (d', .inr l')) :
    Calls Tryd.prog 15 #[.pointer (some ⟨g, 0, none⟩), .int .i64 (first : Nat), .int .i64 (n : Nat)] w fun e w' => ∃ o, e = .returned (.tuple #[.pointer o, errA 0 ⟨#[]⟩]) ∧ OpenedAt g v d' l' w o w' := by
  have hb0 : Below w.heap.size w (w.alloc err0) := (Below.refl _ _).alloc (Nat.le_refl _) _
  have B0 : Blk (w.alloc err0) w.heap.size 27 [.int .i64 0, .string ⟨#[]⟩, .bool false] := Blk.new w 27 _
  have h0 := h.below hb0
  have hs0 := hb0.size
  refine (pOpen_gen _ _ _ w 0 (by omega) (fun o w2 => ∃ o', o = .pointer o' ∧ OpenedAt g v d' l' w o' w2) ?_).mono ?_
  · refine (wopen_yes g v d rd first n _ h0 hp).mono ?_
    rintro e w2 ⟨⟨_, hd⟩, ho, hor⟩
    rw [hc] at hd hor
    rcases hor with ⟨k, hk, _⟩ | ⟨gl, va', vs', rd', l2, hl, he, hst, hgl, hva⟩
    · cases hk
    · injection hl with hl
      subst hl
      exact ⟨_, he, ⟨_, rfl, gl, va', vs', rd', rfl, hst, Nat.le_trans hs0 hgl, fun x hx => Nat.le_trans hs0 (hva x hx), (Only.of_below hb0 (dF g v)).trans' ho⟩, (hG.below hb0).only ho hGF, ho.blk B0 (h0.off B0 (by decide) (by decide))⟩
  · rintro e w' ⟨o, he, w2, w3, ⟨o', ho', gl, va', vs', rd', hgl', hst, hgl, hva, hon⟩, hb, hB, rfl⟩
    injection ho' with ho'
    subst ho'
    exact ⟨o, he, gl, va', vs', rd', hgl', (hst.below hb).set3 hB _ _ _, hgl, hva, set3_only 0 (hon.below hb)⟩
/-- A place that no log holds: told so. -/
theorem pOpen_none (g : Nat) (v : Value) (d d' : Pl.Dk) (rd : Int) (first n k : Nat) (w : World) (h : DiskAt w g v d rd) (hG : GE w) (hGF : ¬ dF g v 0) (hp : placedB d.secs.length first n 4 = true) (hc : Pl.openLog d first n = (d', .inl k)) (hk : k = 2 ∨ k = 3) :
    Calls Tryd.prog 15 #[.pointer (some ⟨g, 0, none⟩), .int .i64 (first : Nat), .int .i64 (n : Nat)] w fun e w' => e = .returned (.tuple #[.pointer none, errA (k : Nat) ⟨#[]⟩]) ∧ (∃ rd', DiskAt w' g v d' rd') ∧ Only (dF g v) w w' := by
  have hb0 : Below w.heap.size w (w.alloc err0) := (Below.refl _ _).alloc (Nat.le_refl _) _
  have B0 : Blk (w.alloc err0) w.heap.size 27 [.int .i64 0, .string ⟨#[]⟩, .bool false] := Blk.new w 27 _
  have h0 := h.below hb0
  refine (pOpen_gen _ _ _ w k (by omega) (fun o w2 => o = .pointer none ∧ (∃ rd', DiskAt w2 g v d' rd') ∧ Only (dF g v) w w2) ?_).mono ?_
  · refine (wopen_yes g v d rd first n _ h0 hp).mono ?_
    rintro e w2 ⟨hd, ho, hor⟩
    rw [hc] at hd hor
    rcases hor with ⟨k', hk', _, he⟩ | ⟨gl, va', vs', rd', l2, hl, _⟩
    · injection hk' with hk'
      subst hk'
      refine ⟨none, ?_, ⟨rfl, hd, (Only.of_below hb0 (dF g v)).trans' ho⟩, (hG.below hb0).only ho hGF, ho.blk B0 (h0.off B0 (by decide) (by decide))⟩
      rw [he]
      rcases hk with rfl | rfl <;> rfl
    · cases hl
  · rintro e w' ⟨o, he, w2, w3, ⟨ho', ⟨rd', hd⟩, hon⟩, hb, hB, rfl⟩
    injection ho' with ho'
    subst ho'
    exact ⟨he, ⟨rd', (hd.below hb).set3 hB k⟩, set3_only k (hon.below hb)⟩
/-- A place that may not be taken: told so. -/
theorem pOpen_no (a b c : Value) (w : World) (hG : GE w) (hc : ∀ W, Below w.heap.size w W → Calls Tryd.prog 35 #[a, b, c] W fun e w' => e = .returned (.tuple #[.pointer none, kindE 1]) ∧ Below W.heap.size W w') :
    Calls Tryd.prog 15 #[a, b, c] w fun e w' => e = .returned (.tuple #[.pointer none, errA 1 ⟨#[]⟩]) ∧ Below w.heap.size w w' := by
  have hb0 : Below w.heap.size w (w.alloc err0) := (Below.refl _ _).alloc (Nat.le_refl _) _
  have B0 : Blk (w.alloc err0) w.heap.size 27 [.int .i64 0, .string ⟨#[]⟩, .bool false] := Blk.new w 27 _
  refine (pOpen_gen a b c w 1 (by omega) (fun o w2 => o = .pointer none ∧ Below w.heap.size w w2) ?_).mono ?_
  · refine (hc _ hb0).mono ?_
    rintro e w2 ⟨he, hb⟩
    exact ⟨none, he, ⟨rfl, hb0.trans (hb.mono hb0.size)⟩, (hG.below hb0).below hb, B0.below hb B0.lt⟩
  · rintro e w' ⟨o, he, w2, w3, ⟨ho', hb2⟩, hb, hB, rfl⟩
    injection ho' with ho'
    subst ho'
    exact ⟨he, below_set3 (hb2.trans (hb.mono hb2.size)) (Nat.le_refl _) _ _ _⟩
theorem pCreate_no (a b c : Value) (w : World) (hG : GE w) (hc : ∀ W, Below w.heap.size w W → Calls Tryd.prog 36 #[a, b, c] W fun e w' => e = .returned (kindE 1) ∧ Below W.heap.size W w') :
    Calls Tryd.prog 16 #[a, b, c] w fun e w' => e = .returned (errA 1 ⟨#[]⟩) ∧ Below w.heap.size w w' := by
  have hb0 : Below w.heap.size w (w.alloc err0) := (Below.refl _ _).alloc (Nat.le_refl _) _
  have B0 : Blk (w.alloc err0) w.heap.size 27 [.int .i64 0, .string ⟨#[]⟩, .bool false] := Blk.new w 27 _
  refine (pCreate_gen a b c w 1 (by omega) (fun w2 => Below w.heap.size w w2) ?_).mono ?_
  · refine (hc _ hb0).mono ?_
    rintro e w2 ⟨he, hb⟩
    exact ⟨he, hb0.trans (hb.mono hb0.size), (hG.below hb0).below hb, B0.below hb B0.lt⟩
  · rintro e w' ⟨he, w2, w3, hb2, hb, hB, rfl⟩
    exact ⟨he, below_set3 (hb2.trans (hb.mono hb2.size)) (Nat.le_refl _) _ _ _⟩

/-- The harness's log, while another lies opened beside it. -/
structure XPre (B : Nat) (w : World) (gx g gl gl2 : Nat) (v va2 vall vb : Value) (vs2 bs : List Value) (d2 : Pl.Dk) (rd2 : Int) (l l2 : Pl.Lg) (ss : List ByteArray) : Prop where
  blk : Blk w gx 54 (xCells g gl l vall vb)
  log : LogSt w gl2 g v va2 vs2 d2 rd2 l2
  all : w.ownsRow B 9 1 vall ss.length (sv ss)
  book : BookRows w B vb bs
  low : B ≤ gx ∧ ∀ k, lFa gl2 g v va2 k → B ≤ k
  apart : ∀ k, va2.ownBlock = some k → vb.ownBlock ≠ some k
theorem XPre.below {B : Nat} {w w' : World} {gx g gl gl2 : Nat} {v va2 vall vb : Value} {vs2 bs : List Value} {d2 : Pl.Dk} {rd2 : Int} {l l2 : Pl.Lg} {ss : List ByteArray} (h : XPre B w gx g gl gl2 v va2 vall vb vs2 bs d2 rd2 l l2 ss) (hb : Below w.heap.size w w') : XPre B w' gx g gl gl2 v va2 vall vb vs2 bs d2 rd2 l l2 ss :=
  ⟨h.blk.below hb h.blk.lt, h.log.below hb, own_below h.all hb, h.book.below hb, h.low, h.apart⟩
theorem XPre.setErr {B b : Nat} {w : World} {gx g gl gl2 : Nat} {v va2 vall vb a0 a1 a2 : Value} {vs2 bs : List Value} {d2 : Pl.Dk} {rd2 : Int} {l l2 : Pl.Lg} {ss : List ByteArray} (h : XPre B w gx g gl gl2 v va2 vall vb vs2 bs d2 rd2 l l2 ss) (hb : Blk w b 27 [a0, a1, a2]) (k : Nat) : XPre B (set3 w b k) gx g gl gl2 v va2 vall vb vs2 bs d2 rd2 l l2 ss := by
  have ho : Only (· = b) w (set3 w b k) :=
    (((Only.refl (· = b) w).setCell (p := ⟨b, 0, none⟩) (.inl rfl) _).setCell (p := ⟨b, 1, none⟩) (.inl rfl) _).setCell (p := ⟨b, 2, none⟩) (.inl rfl) _
  have hk : Kinds (· = b) w [27] := fun x hx => by
    rw [hx]
    exact ⟨_, by simp, hb.typ⟩
  exact ⟨ho.blk_ hk h.blk (by decide), h.log.onlyT ho hk (by decide) (by decide) (by decide) (by decide) (by decide), ho.own_ hk h.all (by decide), ⟨ho.own_ hk h.book.own (by decide), fun i u hu => by
    obtain ⟨c, hc⟩ := h.book.each i u hu
    exact ⟨c, ho.own_ hk hc (by decide)⟩⟩, h.low, h.apart⟩
/-- Another log is opened. -/
theorem XCore.opened {B : Nat} {w w' : World} {gx g gl : Nat} {v va vall vb : Value} {vs bs : List Value} {d d2 : Pl.Dk} {rd : Int} {l l2 : Pl.Lg} {ss : List ByteArray} {o : Option Addr} (h : XCore B w gx g gl v va vall vb vs bs d rd l ss) (hop : OpenedAt g v d2 l2 w o w') (hB : B ≤ w.heap.size) :
    ∃ gl2 va2 vs2 rd2, o = some ⟨gl2, 0, none⟩ ∧ XPre B w' gx g gl gl2 v va2 vall vb vs2 bs d2 rd2 l l2 ss ∧ Below B w w' := by
  obtain ⟨gl2, va2, vs2, rd2, ho, hst, hgl, hva, hon⟩ := hop
  have hk := h.log.disk.kinds
  refine ⟨gl2, va2, vs2, rd2, ho, ⟨hon.blk_ hk h.blk (by decide), hst, hon.own_ hk h.all (by decide), ⟨hon.own_ hk h.book.own (by decide), fun i u hu => ?_⟩, ⟨h.low.1, fun k hk' => ?_⟩, fun k hk' e => ?_⟩, only_below hon (fun k hk' => h.low.2 k (.inl (.inl hk'))) hB⟩
  · obtain ⟨c, hc⟩ := h.book.each i u hu
    exact ⟨c, hon.own_ hk hc (by decide)⟩
  · rcases hk' with (hk' | hk') | hk'
    · exact h.low.2 k (.inl (.inl hk'))
    · omega
    · exact Nat.le_trans hB (hva k hk')
  · have h1 := hva k hk'
    have h2 := (h.book.lt k (.inl e)).2
    omega
/-- The harness takes it. -/
theorem XPre.taken {B : Nat} {w : World} {gx g gl gl2 : Nat} {v va2 vall vb : Value} {vs2 bs : List Value} {d2 : Pl.Dk} {rd2 : Int} {l l2 : Pl.Lg} {ss : List ByteArray} (h : XPre B w gx g gl gl2 v va2 vall vb vs2 bs d2 rd2 l l2 ss) (hf : l2.first = l.first) (hd : l2.data = l.data) :
    XCore B (w.setCell ⟨gx, 1, none⟩ (.pointer (some ⟨gl2, 0, none⟩))) gx g gl2 v va2 vall vb vs2 bs d2 rd2 l2 ss := by
  have ho : Only (· = gx) w (w.setCell ⟨gx, 1, none⟩ (.pointer (some ⟨gl2, 0, none⟩))) := (Only.refl (· = gx) w).setCell (p := ⟨gx, 1, none⟩) (.inl rfl) _
  have hk : Kinds (· = gx) w [54] := fun x hx => by
    rw [hx]
    exact ⟨_, by simp, h.blk.typ⟩
  have hb := h.blk.set_ 1 (.pointer (some ⟨gl2, 0, none⟩))
  refine ⟨?_, h.log.onlyT ho hk (by decide) (by decide) (by decide) (by decide) (by decide), ho.own_ hk h.all (by decide), ⟨ho.own_ hk h.book.own (by decide), fun i u hu => ?_⟩, h.low, h.apart⟩
  · unfold xCells at hb ⊢
    rw [hf, hd]
    exact hb
  · obtain ⟨c, hc⟩ := h.book.each i u hu
    exact ⟨c, ho.own_ hk hc (by decide)⟩
end Go.Proofs.YtljmklohgpaopaaDoor

namespace Go.Proofs.YtljmklohgpaopaaDoor
open Go.RowKit

/-- The harness's log, whatever lies at its log's place. -/
structure XDisk (B : Nat) (w : World) (gx g gl : Nat) (v vall vb : Value) (bs : List Value) (d : Pl.Dk) (rd : Int) (l : Pl.Lg) (ss : List ByteArray) : Prop where
  blk : Blk w gx 54 (xCells g gl l vall vb)
  disk : DiskAt w g v d rd
  all : w.ownsRow B 9 1 vall ss.length (sv ss)
  book : BookRows w B vb bs
  low : B ≤ gx ∧ ∀ k, dF g v k → B ≤ k
theorem XCore.disk_ {B : Nat} {w : World} {gx g gl : Nat} {v va vall vb : Value} {vs bs : List Value} {d : Pl.Dk} {rd : Int} {l : Pl.Lg} {ss : List ByteArray} (h : XCore B w gx g gl v va vall vb vs bs d rd l ss) : XDisk B w gx g gl v vall vb bs d rd l ss :=
  ⟨h.blk, h.log.disk, h.all, h.book, h.low.1, fun k hk => h.low.2 k (.inl (.inl hk))⟩
theorem XDisk.below {B : Nat} {w w' : World} {gx g gl : Nat} {v vall vb : Value} {bs : List Value} {d : Pl.Dk} {rd : Int} {l : Pl.Lg} {ss : List ByteArray} (h : XDisk B w gx g gl v vall vb bs d rd l ss) (hb : Below w.heap.size w w') : XDisk B w' gx g gl v vall vb bs d rd l ss :=
  ⟨h.blk.below hb h.blk.lt, h.disk.below hb, own_below h.all hb, h.book.below hb, h.low⟩
/-- Another log is opened. -/
theorem XDisk.opened {B : Nat} {w w' : World} {gx g gl : Nat} {v vall vb : Value} {bs : List Value} {d d2 : Pl.Dk} {rd : Int} {l l2 : Pl.Lg} {ss : List ByteArray} {o : Option Addr} (h : XDisk B w gx g gl v vall vb bs d rd l ss) (hop : OpenedAt g v d2 l2 w o w') (hB : B ≤ w.heap.size) :
    ∃ gl2 va2 vs2 rd2, o = some ⟨gl2, 0, none⟩ ∧ XPre B w' gx g gl gl2 v va2 vall vb vs2 bs d2 rd2 l l2 ss ∧ Below B w w' := by
  obtain ⟨gl2, va2, vs2, rd2, ho, hst, hgl, hva, hon⟩ := hop
  have hk := h.disk.kinds
  refine ⟨gl2, va2, vs2, rd2, ho, ⟨hon.blk_ hk h.blk (by decide), hst, hon.own_ hk h.all (by decide), ⟨hon.own_ hk h.book.own (by decide), fun i u hu => ?_⟩, ⟨h.low.1, fun k hk' => ?_⟩, fun k hk' e => ?_⟩, only_below hon (fun k hk' => h.low.2 k hk') hB⟩
  · obtain ⟨c, hc⟩ := h.book.each i u hu
    exact ⟨c, hon.own_ hk hc (by decide)⟩
  · rcases hk' with (hk' | hk') | hk'
    · exact h.low.2 k hk'
    · omega
    · exact Nat.le_trans hB (hva k hk')
  · have h1 := hva k hk'
    have h2 := (h.book.lt k (.inl e)).2
    omega
/-- Another disk is laid into the harness's log. -/
theorem XCore.moved {B : Nat} {w w' : World} {gx g gl g2 : Nat} {v va vall vb v2 : Value} {vs bs : List Value} {d d2 : Pl.Dk} {rd rd2 : Int} {l : Pl.Lg} {ss : List ByteArray} (h : XCore B w gx g gl v va vall vb vs bs d rd l ss) (hb : Below w.heap.size w w') (hd : DiskAt w' g2 v2 d2 rd2) (hn : ∀ k, dF g2 v2 k → w.heap.size ≤ k) (hB : B ≤ w.heap.size) :
    XDisk B (w'.setCell ⟨gx, 0, none⟩ (.pointer (some ⟨g2, 0, none⟩))) gx g2 gl v2 vall vb bs d2 rd2 l ss := by
  have h1 := h.below hb
  have ho : Only (· = gx) w' (w'.setCell ⟨gx, 0, none⟩ (.pointer (some ⟨g2, 0, none⟩))) := (Only.refl (· = gx) w').setCell (p := ⟨gx, 0, none⟩) (.inl rfl) _
  have hk : Kinds (· = gx) w' [54] := fun x hx => by
    rw [hx]
    exact ⟨_, by simp, h1.blk.typ⟩
  exact ⟨h1.blk.set_ 0 _, hd.onlyT ho hk (by decide) (by decide), ho.own_ hk h1.all (by decide), ⟨ho.own_ hk h1.book.own (by decide), fun i u hu => by
    obtain ⟨c, hc⟩ := h1.book.each i u hu
    exact ⟨c, ho.own_ hk hc (by decide)⟩⟩, h1.low.1, fun k hk' => Nat.le_trans hB (hn k hk')⟩
end Go.Proofs.YtljmklohgpaopaaDoor
