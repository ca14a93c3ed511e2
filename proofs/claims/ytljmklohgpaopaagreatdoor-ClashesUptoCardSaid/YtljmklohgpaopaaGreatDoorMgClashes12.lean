/- The document's Op.Text. -/
import Derived.Test.YtljmklohgpaopaaGreatDoorMgClashes11
set_option linter.unusedVariables false
set_option linter.unusedSimpArgs false

namespace Go.Proofs.YtljmklohgpaopaaGreatDoor
open Go.RowKit

set_option maxHeartbeats 1000000 in
set_option maxRecDepth 100000 in
theorem refOpText_any (P : Nat → Prop) (c : List Value) (o : Pl.Opn) (w : World) (hR : OpR w P c o) (hP : ∀ b, P b → b < w.heap.size) (hok : Pl.OpOk o) :
    Calls Tryz.prog 75 #[.agg c.toArray] w (TX w (Pl.encOp o)) := by
  obtain ⟨hk, ht, hcl, hrl, hcb, hrb, h4⟩ := OpOk.b hok
  obtain ⟨Ac, cc, Ar, cr, rfl, hcc, hcr, hsc, hsr, hpc, hpr⟩ := hR
  obtain ⟨kind, table, cols, row⟩ := o
  dsimp only at hk ht hcl hrl hcb hrb h4 hcc hcr hsc hsr ⊢
  obtain ⟨nr, hnr⟩ : ∃ n, row.length = n := ⟨_, rfl⟩
  obtain ⟨nc, hnc⟩ : ∃ n, cols.length = n := ⟨_, rfl⟩
  have HNR := Lib.hid hnr
  have HNC := Lib.hid hnc
  rw [hnr] at hrl hcr ⊢
  rw [hnc] at hcl hcc ⊢
  have hz := tstr_size table
  have wk := wrap_u8 (show kind < 256 by omega)
  obtain ⟨wb, hwb⟩ : ∃ wb, w.alloc (.cells #[.int .i64 (kind : Nat), .string (tstr table), .slice Ac nc cc, .slice Ar nr cr] 151) = wb := ⟨_, rfl⟩
  obtain ⟨gb, hgb⟩ : ∃ g, w.heap.size = g := ⟨_, rfl⟩
  have BB : Blk wb gb 151 [.int .i64 (kind : Nat), .string (tstr table), .slice Ac nc cc, .slice Ar nr cr] := by rw [← hwb, ← hgb]; exact Blk.new w 151 _
  have hbb : Below w.heap.size w wb := by rw [← hwb]; exact below_alloc _ _
  have HBB := Lib.hid BB
  have HBW := Lib.hid hbb
  have hD : ∀ W, Below wb.heap.size wb W → W.cell? ⟨gb, 0, none⟩ = some (.int .i64 (kind : Nat)) ∧ W.cell? ⟨gb, 1, none⟩ = some (.string (tstr table)) ∧ W.cell? ⟨gb, 2, none⟩ = some (.slice Ac nc cc) ∧ W.cell? ⟨gb, 3, none⟩ = some (.slice Ar nr cr) := fun W hb => by
    obtain ⟨d0, d1, d2, d3, _⟩ := facts4 (HBB.out.below hb HBB.out.lt)
    exact ⟨d0, d1, d2, d3⟩
  have HD := Lib.hid hD
  have HSH := Lib.hid (fun W => refShort_any table W (by omega))
  have B_0 : Hid (Below wb.heap.size wb wb.drew) := (Below.refl _ _).drew
  have HSC := Lib.hid (hsc.below hbb)
  have HSR := Lib.hid (hsr.below hbb)
  have hcat : ∀ W, (Op.stringOp .add (tstr [UInt8.ofNat kind]) (tstr (Pl.short table))).run Tryz.prog W = .ok (.string (tstr ([UInt8.ofNat kind] ++ Pl.short table))) W := fun W => run_cat W [UInt8.ofNat kind] (Pl.short table) (by simp [Pl.short]; omega)
  obtain ⟨hd, hhd⟩ : ∃ l, [UInt8.ofNat kind] ++ Pl.short table = l := ⟨_, rfl⟩
  have hdl : Hid (hd.length ≤ 1000) := by rw [Hid, ← hhd]; unfold Pl.short; simp; omega
  rw [hhd] at hcat
  have HHD := Lib.hid hhd
  have opKind_src : ∀ W : World, BytesAt (W.alloc (.cells #[.int .u8 (kind : Nat)] 5)) (some ⟨W.heap.size, 0, none⟩) [UInt8.ofNat kind] := fun W => (src_one W kind (by omega)).bytes
  have HCB := Lib.hid hcb
  have HRB := Lib.hid hrb
  have H4 := Lib.hid h4
  clear BB hbb hsc hsr hpc hpr hP hcb hrb hok hnr hnc hD hhd h4
  go_enter Tryz.func75, Tryz.ntmps75
  go_wp2_with fail
  go_cut [3] from 6 (fun s3 wx => s3 = .string (tstr hd) ∧ Hid (Below wb.heap.size wb wx))
  case first =>
    refine wp_region_L 99 (fun _ => True) (fun W => W.cell? ⟨gb, 0, none⟩ = some (.int .i64 (kind : Nat)) ∧ W.cell? ⟨gb, 1, none⟩ = some (.string (tstr table)) ∧ W.cell? ⟨gb, 2, none⟩ = some (.slice Ac nc cc) ∧ W.cell? ⟨gb, 3, none⟩ = some (.slice Ar nr cr)) (by kernel_rfl) trivial (HD.out _ B_0.out) (fun hTill => ?_)
    refine wpL_take' (i := 0) (oi := _) (v := ?_) rfl (by kernel_rfl) (by kernel_rfl) (by kernel_rfl) (by kernel_rfl) (fun _ _ _ h => h) (.inl ⟨by rfl, ?_⟩) (by assumption) ?_
    rotate_left
    · intro W hSw
      (try dsimp only at hSw)
      go_simp
      (try rfl)
    (try simp only [Act.put, List.getElem_toArray, List.getElem_cons_succ, List.getElem_cons_zero, List.setIfInBounds_toArray, List.set_cons_zero, List.set_cons_succ])
    refine wpL_take' (i := 1) (oi := _) (v := ?_) rfl (by kernel_rfl) (by kernel_rfl) (by kernel_rfl) (by kernel_rfl) (fun _ _ _ h => h) (.inl ⟨by rfl, ?_⟩) (by assumption) ?_
    rotate_left
    · intro W hSw
      (try dsimp only at hSw)
      go_simp
      (try rfl)
    (try simp only [Act.put, List.getElem_toArray, List.getElem_cons_succ, List.getElem_cons_zero, List.setIfInBounds_toArray, List.set_cons_zero, List.set_cons_succ])
    refine wpL_take' (i := 2) (oi := _) (v := ?_) rfl (by kernel_rfl) (by kernel_rfl) (by kernel_rfl) (by kernel_rfl) (fun _ _ _ h => h) (.inl ⟨by rfl, ?_⟩) (by assumption) ?_
    rotate_left
    · intro W hSw
      (try dsimp only at hSw)
      go_simp
      (try rfl)
    (try simp only [Act.put, List.getElem_toArray, List.getElem_cons_succ, List.getElem_cons_zero, List.setIfInBounds_toArray, List.set_cons_zero, List.set_cons_succ])
    refine wpL_take' (i := 5) (oi := _) (v := ?_) rfl (by kernel_rfl) (by kernel_rfl) (by kernel_rfl) (by kernel_rfl) (fun _ _ _ h => h) (.inl ⟨by rfl, ?_⟩) (by assumption) ?_
    rotate_left
    · intro W hSw
      (try dsimp only at hSw)
      go_simp
      (try rfl)
    (try simp only [Act.put, List.getElem_toArray, List.getElem_cons_succ, List.getElem_cons_zero, List.setIfInBounds_toArray, List.set_cons_zero, List.set_cons_succ])
    refine wpL_take' (i := 6) (oi := _) (v := ?_) rfl (by kernel_rfl) (by kernel_rfl) (by kernel_rfl) (by kernel_rfl) (fun _ _ _ h => h) (.inl ⟨by rfl, ?_⟩) (by assumption) ?_
    rotate_left
    · intro W hSw
      (try dsimp only at hSw)
      go_simp
      (try rfl)
    (try simp only [Act.put, List.getElem_toArray, List.getElem_cons_succ, List.getElem_cons_zero, List.setIfInBounds_toArray, List.set_cons_zero, List.set_cons_succ])
    refine wpL_ready (rs := [3, 7]) (by kernel_rfl) (by simp) ?_
    refine AllL.cons (o := _) rfl (fun K hK => ?_) (AllL.cons (o := _) rfl (fun K hK => ?_) (AllL.nil))
    · obtain ⟨W1, hW1⟩ : ∃ W, World.alloc wb.drew (.cells #[.int .u8 (kind : Nat)] 5) = W := ⟨_, rfl⟩
      obtain ⟨gb1, hgb1⟩ : ∃ g, Array.size (World.heap wb.drew) = g := ⟨_, rfl⟩
      have B_1 : Hid (Below wb.heap.size wb W1) := by rw [Hid, ← hW1]; exact B_0.out.alloc B_0.out.size _
      have S_1 : Hid (BytesAt W1 (some ⟨gb1, 0, none⟩) [UInt8.ofNat kind]) := by rw [Hid, ← hW1, ← hgb1]; exact opKind_src wb.drew
      go_simp
      (try rw [hW1])
      refine hK.out _ _ ⟨fun _ => trivial, HD.out _ B_1.out⟩ (fun hTill => ?_)
      clear hK K
      (try simp only [Act.put, List.getElem_toArray, List.getElem_cons_succ, List.getElem_cons_zero, List.setIfInBounds_toArray, List.set_cons_zero, List.set_cons_succ])
      refine wpL_ready (rs := [4, 7]) (by kernel_rfl) (by simp) ?_
      refine AllL.cons (o := _) rfl (fun K hK => ?_) (AllL.cons (o := _) rfl (fun K hK => ?_) (AllL.nil))
      · have hcv2 : (convert 25 9 (.slice (some ⟨gb1, 0, none⟩) 1 1)).run Tryz.prog W1 = .ok (.string (tstr [UInt8.ofNat kind])) W1 := run_tostr W1 (some ⟨gb1, 0, none⟩) [UInt8.ofNat kind] 1 S_1.out
        go_simp
        refine hK.out _ _ ⟨fun _ => trivial, HD.out _ B_1.out⟩ (fun hTill => ?_)
        clear hK K
        (try simp only [Act.put, List.getElem_toArray, List.getElem_cons_succ, List.getElem_cons_zero, List.setIfInBounds_toArray, List.set_cons_zero, List.set_cons_succ])
        refine wpL_ready (rs := [7]) (by kernel_rfl) (by simp) ?_
        refine AllL.cons (o := _) rfl (fun K hK => ?_) (AllL.nil)
        go_simp
        refine (HSH.out _).mono ?_
        rintro e W3 ⟨rfl, hb3⟩
        have B_3 : Hid (Below wb.heap.size wb W3) := B_1.out.trans (hb3.mono B_1.out.size)
        have S_3_3 : Hid (BytesAt W3 (some ⟨gb1, 0, none⟩) [UInt8.ofNat kind]) := S_1.out.keep hb3
        clear hb3
        go_wp2_with fail
        refine hK.out _ _ ⟨fun _ => trivial, HD.out _ B_3.out⟩ (fun hTill => ?_)
        clear hK K
        (try simp only [Act.put, List.getElem_toArray, List.getElem_cons_succ, List.getElem_cons_zero, List.setIfInBounds_toArray, List.set_cons_zero, List.set_cons_succ])
        refine wpL_take' (i := 8) (oi := _) (v := ?_) rfl (by kernel_rfl) (by kernel_rfl) (by kernel_rfl) (by kernel_rfl) (fun _ _ _ h => h) (.inl ⟨by rfl, ?_⟩) (by assumption) ?_
        rotate_left
        · intro W hSw
          (try dsimp only at hSw)
          go_simp
          (try rfl)
        (try simp only [Act.put, List.getElem_toArray, List.getElem_cons_succ, List.getElem_cons_zero, List.setIfInBounds_toArray, List.set_cons_zero, List.set_cons_succ])
        refine wpL_take' (i := 9) (oi := _) (v := ?_) rfl (by kernel_rfl) (by kernel_rfl) (by kernel_rfl) (by kernel_rfl) (fun _ _ _ h => h) (.inl ⟨by rfl, ?_⟩) (by assumption) ?_
        rotate_left
        · intro W hSw
          (try dsimp only at hSw)
          go_simp
          (try rfl)
        (try simp only [Act.put, List.getElem_toArray, List.getElem_cons_succ, List.getElem_cons_zero, List.setIfInBounds_toArray, List.set_cons_zero, List.set_cons_succ])
        refine wpL_done (by kernel_rfl) ?_ _
        clear hTill
        go_wp2_with fail
        go_meet
        exact ⟨rfl, B_3.out⟩
      · go_simp
        refine (HSH.out _).mono ?_
        rintro e W4 ⟨rfl, hb4⟩
        have B_4 : Hid (Below wb.heap.size wb W4) := B_1.out.trans (hb4.mono B_1.out.size)
        have S_4_3 : Hid (BytesAt W4 (some ⟨gb1, 0, none⟩) [UInt8.ofNat kind]) := S_1.out.keep hb4
        clear hb4
        go_wp2_with fail
        refine hK.out _ _ ⟨fun _ => trivial, HD.out _ B_4.out⟩ (fun hTill => ?_)
        clear hK K
        (try simp only [Act.put, List.getElem_toArray, List.getElem_cons_succ, List.getElem_cons_zero, List.setIfInBounds_toArray, List.set_cons_zero, List.set_cons_succ])
        refine wpL_ready (rs := [4]) (by kernel_rfl) (by simp) ?_
        refine AllL.cons (o := _) rfl (fun K hK => ?_) (AllL.nil)
        have hcv5 : (convert 25 9 (.slice (some ⟨gb1, 0, none⟩) 1 1)).run Tryz.prog W4 = .ok (.string (tstr [UInt8.ofNat kind])) W4 := run_tostr W4 (some ⟨gb1, 0, none⟩) [UInt8.ofNat kind] 1 S_4_3.out
        go_simp
        refine hK.out _ _ ⟨fun _ => trivial, HD.out _ B_4.out⟩ (fun hTill => ?_)
        clear hK K
        (try simp only [Act.put, List.getElem_toArray, List.getElem_cons_succ, List.getElem_cons_zero, List.setIfInBounds_toArray, List.set_cons_zero, List.set_cons_succ])
        refine wpL_take' (i := 8) (oi := _) (v := ?_) rfl (by kernel_rfl) (by kernel_rfl) (by kernel_rfl) (by kernel_rfl) (fun _ _ _ h => h) (.inl ⟨by rfl, ?_⟩) (by assumption) ?_
        rotate_left
        · intro W hSw
          (try dsimp only at hSw)
          go_simp
          (try rfl)
        (try simp only [Act.put, List.getElem_toArray, List.getElem_cons_succ, List.getElem_cons_zero, List.setIfInBounds_toArray, List.set_cons_zero, List.set_cons_succ])
        refine wpL_take' (i := 9) (oi := _) (v := ?_) rfl (by kernel_rfl) (by kernel_rfl) (by kernel_rfl) (by kernel_rfl) (fun _ _ _ h => h) (.inl ⟨by rfl, ?_⟩) (by assumption) ?_
        rotate_left
        · intro W hSw
          (try dsimp only at hSw)
          go_simp
          (try rfl)
        (try simp only [Act.put, List.getElem_toArray, List.getElem_cons_succ, List.getElem_cons_zero, List.setIfInBounds_toArray, List.set_cons_zero, List.set_cons_succ])
        refine wpL_done (by kernel_rfl) ?_ _
        clear hTill
        go_wp2_with fail
        go_meet
        exact ⟨rfl, B_4.out⟩
    · go_simp
      refine (HSH.out _).mono ?_
      rintro e W6 ⟨rfl, hb6⟩
      have B_6 : Hid (Below wb.heap.size wb W6) := B_0.out.trans (hb6.mono B_0.out.size)
      clear hb6
      go_wp2_with fail
      refine hK.out _ _ ⟨fun _ => trivial, HD.out _ B_6.out⟩ (fun hTill => ?_)
      clear hK K
      (try simp only [Act.put, List.getElem_toArray, List.getElem_cons_succ, List.getElem_cons_zero, List.setIfInBounds_toArray, List.set_cons_zero, List.set_cons_succ])
      refine wpL_ready (rs := [3]) (by kernel_rfl) (by simp) ?_
      refine AllL.cons (o := _) rfl (fun K hK => ?_) (AllL.nil)
      obtain ⟨W7, hW7⟩ : ∃ W, World.alloc W6 (.cells #[.int .u8 (kind : Nat)] 5) = W := ⟨_, rfl⟩
      obtain ⟨gb7, hgb7⟩ : ∃ g, Array.size (World.heap W6) = g := ⟨_, rfl⟩
      have B_7 : Hid (Below wb.heap.size wb W7) := by rw [Hid, ← hW7]; exact B_6.out.alloc B_6.out.size _
      have S_7 : Hid (BytesAt W7 (some ⟨gb7, 0, none⟩) [UInt8.ofNat kind]) := by rw [Hid, ← hW7, ← hgb7]; exact opKind_src W6
      go_simp
      (try rw [hW7])
      refine hK.out _ _ ⟨fun _ => trivial, HD.out _ B_7.out⟩ (fun hTill => ?_)
      clear hK K
      (try simp only [Act.put, List.getElem_toArray, List.getElem_cons_succ, List.getElem_cons_zero, List.setIfInBounds_toArray, List.set_cons_zero, List.set_cons_succ])
      refine wpL_ready (rs := [4]) (by kernel_rfl) (by simp) ?_
      refine AllL.cons (o := _) rfl (fun K hK => ?_) (AllL.nil)
      have hcv8 : (convert 25 9 (.slice (some ⟨gb7, 0, none⟩) 1 1)).run Tryz.prog W7 = .ok (.string (tstr [UInt8.ofNat kind])) W7 := run_tostr W7 (some ⟨gb7, 0, none⟩) [UInt8.ofNat kind] 1 S_7.out
      go_simp
      refine hK.out _ _ ⟨fun _ => trivial, HD.out _ B_7.out⟩ (fun hTill => ?_)
      clear hK K
      (try simp only [Act.put, List.getElem_toArray, List.getElem_cons_succ, List.getElem_cons_zero, List.setIfInBounds_toArray, List.set_cons_zero, List.set_cons_succ])
      refine wpL_take' (i := 8) (oi := _) (v := ?_) rfl (by kernel_rfl) (by kernel_rfl) (by kernel_rfl) (by kernel_rfl) (fun _ _ _ h => h) (.inl ⟨by rfl, ?_⟩) (by assumption) ?_
      rotate_left
      · intro W hSw
        (try dsimp only at hSw)
        go_simp
        (try rfl)
      (try simp only [Act.put, List.getElem_toArray, List.getElem_cons_succ, List.getElem_cons_zero, List.setIfInBounds_toArray, List.set_cons_zero, List.set_cons_succ])
      refine wpL_take' (i := 9) (oi := _) (v := ?_) rfl (by kernel_rfl) (by kernel_rfl) (by kernel_rfl) (by kernel_rfl) (fun _ _ _ h => h) (.inl ⟨by rfl, ?_⟩) (by assumption) ?_
      rotate_left
      · intro W hSw
        (try dsimp only at hSw)
        go_simp
        (try rfl)
      (try simp only [Act.put, List.getElem_toArray, List.getElem_cons_succ, List.getElem_cons_zero, List.setIfInBounds_toArray, List.set_cons_zero, List.set_cons_succ])
      refine wpL_done (by kernel_rfl) ?_ _
      clear hTill
      go_wp2_with fail
      go_meet
      exact ⟨rfl, B_7.out⟩
  case rest =>
    obtain ⟨rfl, HX⟩ := hcut
    obtain ⟨d0, d1, d2, d3⟩ := HD.out _ HX.out
    have HSCx := Lib.hid (HSC.out.below HX.out)
    have HSRx := Lib.hid (HSR.out.below HX.out)
    have HBWX := Lib.hid (HBW.out.trans (HX.out.mono HBW.out.size))
    have hEN : Pl.encOp ⟨kind, table, cols, row⟩ = hd ++ (if kind = 1 then Pl.encCols cols else if kind = 4 then row.flatMap Pl.encV else Pl.encRow row) := by rw [← HHD.out]; rfl
    by_cases k1 : kind = 1
    · have q1 : ((kind : Int) == 1) = true := by rw [k1]; rfl
      rw [if_pos k1] at hEN
      have HEN := Lib.hid hEN
      clear k1 hEN
      have wn := wrap_u8 (show nc < 256 by omega)
      have ho := run_one nc (by omega) wc
      obtain ⟨w2, hw2⟩ : ∃ W, wc.alloc (.cells #[.int .u8 (nc : Int)] 5) = W := ⟨_, rfl⟩
      rw [hw2] at ho
      have hb2 : Below wb.heap.size wb w2 := by rw [← hw2]; exact HX.out.alloc HX.out.size _
      have HB2 := Lib.hid hb2
      obtain ⟨r0, hr0⟩ : ∃ l, hd ++ [UInt8.ofNat nc] = l := ⟨_, rfl⟩
      have hcat2 : ∀ W, (Op.stringOp .add (tstr hd) (tstr [UInt8.ofNat nc])).run Tryz.prog W = .ok (.string (tstr r0)) W := fun W => by rw [← hr0]; exact run_cat W hd [UInt8.ofNat nc] (by have := hdl.out; simp; omega)
      have HR0 := Lib.hid hr0
      clear hr0 hb2
      go_wp2_with fail
      go_loopw [3, 4] (fun s i wr => ∃ (k : Nat) (r : List UInt8), k ≤ nc ∧ i = .int .i64 (k : Int) ∧ s = .string (tstr r) ∧ Hid (r = hd ++ UInt8.ofNat nc :: (cols.take k).flatMap Pl.encC) ∧ Hid (Below wb.heap.size wb wr)) (fun _ i _ => nc - (intOf i).toNat)
      case atStart => exact ⟨0, r0, Nat.zero_le _, rfl, rfl, by rw [Hid, ← HR0.out]; simp, HB2.out⟩
      case round =>
        obtain ⟨k, r, hk, rfl, rfl, HR, HBX⟩ := hrel
        obtain ⟨x0, x1, x2, x3⟩ := HD.out _ HBX.out
        by_cases hkn : k < nc
        · have q2 : (k : Int) < (nc : Int) := by omega
          have q3 : (0 : Int) ≤ (k : Int) := by omega
          obtain ⟨x, hc⟩ : ∃ c, cols[k]? = some c := ⟨_, List.getElem?_eq_getElem (by rw [HNC.out]; exact hkn)⟩
          have hsr := HSC.out.below HBX.out
          have at_ := flat_at (f := clc) (s := 2) (fun _ => rfl) cols k x hc
          obtain ⟨b, off, rfl, g0⟩ := hsr.at_ _ _ (at_ 0 (by omega))
          have g1 := hsr.cell _ _ (at_ 1 (by omega))
          rw [← Nat.add_assoc] at g1
          rw [Nat.add_zero] at g0
          have hf := flat_len (f := Pl.encC) (m := 257) (cols.take k) (fun y hy => encC_len (HCB.out y (List.mem_of_mem_take hy)))
          have ht : (cols.take k).length ≤ 256 := by rw [List.length_take]; omega
          have hrl : r.length ≤ 100000 := by rw [HR.out, List.length_append, List.length_cons]; have := hdl.out; omega
          have hxb := HCB.out x (List.mem_of_getElem? hc)
          have hR3 : r ++ Pl.short x.name ++ [UInt8.ofNat x.ty] = hd ++ UInt8.ofNat nc :: (cols.take (k + 1)).flatMap Pl.encC := by
            rw [flat_succ _ hc, HR.out]
            unfold Pl.encC
            simp
          obtain ⟨nm, ty⟩ := x
          obtain ⟨hx1, hx2⟩ := hxb
          dsimp only at g0 g1 hx1 hx2 hR3
          have wty := wrap_u8 hx2
          have HSN := Lib.hid (fun W => refShort_any nm W (by omega))
          have hzn := tstr_size nm
          obtain ⟨r2, hr2⟩ : ∃ l, r ++ Pl.short nm = l := ⟨_, rfl⟩
          have k1 : ∀ W, (Op.stringOp .add (tstr r) (tstr (Pl.short nm))).run Tryz.prog W = .ok (.string (tstr r2)) W := fun W => by rw [← hr2]; exact run_cat W r (Pl.short nm) (by unfold Pl.short; simp; omega)
          have hr2l : r2.length ≤ 200000 := by rw [← hr2]; unfold Pl.short; simp; omega
          rw [hr2] at hR3
          obtain ⟨r3, hr3⟩ : ∃ l, r2 ++ [UInt8.ofNat ty] = l := ⟨_, rfl⟩
          have k2 : ∀ W, (Op.stringOp .add (tstr r2) (tstr [UInt8.ofNat ty])).run Tryz.prog W = .ok (.string (tstr r3)) W := fun W => by rw [← hr3]; exact run_cat W r2 [UInt8.ofNat ty] (by simp; omega)
          rw [hr3] at hR3
          have HR3 := Lib.hid hR3
          have opTy_src : ∀ W : World, BytesAt (W.alloc (.cells #[.int .u8 (ty : Nat)] 5)) (some ⟨W.heap.size, 0, none⟩) [UInt8.ofNat ty] := fun W => (src_one W ty hx2).bytes
          have HDX := Lib.hid (show ∀ W, Below wr.heap.size wr W → W.cell? ⟨gb, 2, none⟩ = some (.slice (some ⟨b, off, none⟩) nc cc) ∧ W.cell? ⟨b, off + k * 2, none⟩ = some (.string (tstr nm)) ∧ W.cell? ⟨b, off + k * 2 + 1, none⟩ = some (.int .i64 (ty : Nat)) from fun W hb => ⟨below_keeps hb _ _ x2, below_keeps hb _ _ g0, below_keeps hb _ _ g1⟩)
          have B_0 : Hid (Below wr.heap.size wr wr.drew) := (Below.refl _ _).drew
          clear hc hsr at_ hf ht hrl hR3 hr2 hr3 hr2l
          go_wp2_with fail
          refine wp_region_L 99 (fun _ => True) (fun W => W.cell? ⟨gb, 2, none⟩ = some (.slice (some ⟨b, off, none⟩) nc cc) ∧ W.cell? ⟨b, off + k * 2, none⟩ = some (.string (tstr nm)) ∧ W.cell? ⟨b, off + k * 2 + 1, none⟩ = some (.int .i64 (ty : Nat))) (by kernel_rfl) trivial (HDX.out _ B_0.out) (fun hTill => ?_)
          refine wpL_take' (i := 0) (oi := _) (v := ?_) rfl (by kernel_rfl) (by kernel_rfl) (by kernel_rfl) (by kernel_rfl) (fun _ _ _ h => h) (.inl ⟨by rfl, ?_⟩) (by assumption) ?_
          rotate_left
          · intro W hSw
            (try dsimp only at hSw)
            go_simp
            (try rfl)
          (try simp only [Act.put, List.getElem_toArray, List.getElem_cons_succ, List.getElem_cons_zero, List.setIfInBounds_toArray, List.set_cons_zero, List.set_cons_succ])
          refine wpL_take' (i := 1) (oi := _) (v := ?_) rfl (by kernel_rfl) (by kernel_rfl) (by kernel_rfl) (by kernel_rfl) (fun _ _ _ h => h) (.inl ⟨by rfl, ?_⟩) (by assumption) ?_
          rotate_left
          · intro W hSw
            (try dsimp only at hSw)
            go_simp
            (try rfl)
          (try simp only [Act.put, List.getElem_toArray, List.getElem_cons_succ, List.getElem_cons_zero, List.setIfInBounds_toArray, List.set_cons_zero, List.set_cons_succ])
          refine wpL_take' (i := 2) (oi := _) (v := ?_) rfl (by kernel_rfl) (by kernel_rfl) (by kernel_rfl) (by kernel_rfl) (fun _ _ _ h => h) (.inl ⟨by rfl, ?_⟩) (by assumption) ?_
          rotate_left
          · intro W hSw
            (try dsimp only at hSw)
            go_simp
            (try rfl)
          (try simp only [Act.put, List.getElem_toArray, List.getElem_cons_succ, List.getElem_cons_zero, List.setIfInBounds_toArray, List.set_cons_zero, List.set_cons_succ])
          refine wpL_take' (i := 3) (oi := _) (v := ?_) rfl (by kernel_rfl) (by kernel_rfl) (by kernel_rfl) (by kernel_rfl) (fun _ _ _ h => h) (.inl ⟨by rfl, ?_⟩) (by assumption) ?_
          rotate_left
          · intro W hSw
            (try dsimp only at hSw)
            go_simp
            (try rfl)
          (try simp only [Act.put, List.getElem_toArray, List.getElem_cons_succ, List.getElem_cons_zero, List.setIfInBounds_toArray, List.set_cons_zero, List.set_cons_succ])
          refine wpL_take' (i := 4) (oi := _) (v := ?_) rfl (by kernel_rfl) (by kernel_rfl) (by kernel_rfl) (by kernel_rfl) (fun _ _ _ h => h) (.inl ⟨by rfl, ?_⟩) (by assumption) ?_
          rotate_left
          · intro W hSw
            (try dsimp only at hSw)
            go_simp
            (try rfl)
          (try simp only [Act.put, List.getElem_toArray, List.getElem_cons_succ, List.getElem_cons_zero, List.setIfInBounds_toArray, List.set_cons_zero, List.set_cons_succ])
          refine wpL_take' (i := 5) (oi := _) (v := ?_) rfl (by kernel_rfl) (by kernel_rfl) (by kernel_rfl) (by kernel_rfl) (fun _ _ _ h => h) (.inl ⟨by rfl, ?_⟩) (by assumption) ?_
          rotate_left
          · intro W hSw
            (try dsimp only at hSw)
            go_simp
            (try rfl)
          (try simp only [Act.put, List.getElem_toArray, List.getElem_cons_succ, List.getElem_cons_zero, List.setIfInBounds_toArray, List.set_cons_zero, List.set_cons_succ])
          refine wpL_take' (i := 6) (oi := _) (v := ?_) rfl (by kernel_rfl) (by kernel_rfl) (by kernel_rfl) (by kernel_rfl) (fun _ _ _ h => h) (.inl ⟨by rfl, ?_⟩) (by assumption) ?_
          rotate_left
          · intro W hSw
            (try dsimp only at hSw)
            go_simp
            (try rfl)
          (try simp only [Act.put, List.getElem_toArray, List.getElem_cons_succ, List.getElem_cons_zero, List.setIfInBounds_toArray, List.set_cons_zero, List.set_cons_succ])
          refine wpL_take' (i := 9) (oi := _) (v := ?_) rfl (by kernel_rfl) (by kernel_rfl) (by kernel_rfl) (by kernel_rfl) (fun _ _ _ h => h) (.inl ⟨by rfl, ?_⟩) (by assumption) ?_
          rotate_left
          · intro W hSw
            (try dsimp only at hSw)
            go_simp
            (try rfl)
          (try simp only [Act.put, List.getElem_toArray, List.getElem_cons_succ, List.getElem_cons_zero, List.setIfInBounds_toArray, List.set_cons_zero, List.set_cons_succ])
          refine wpL_take' (i := 10) (oi := _) (v := ?_) rfl (by kernel_rfl) (by kernel_rfl) (by kernel_rfl) (by kernel_rfl) (fun _ _ _ h => h) (.inl ⟨by rfl, ?_⟩) (by assumption) ?_
          rotate_left
          · intro W hSw
            (try dsimp only at hSw)
            go_simp
            (try rfl)
          (try simp only [Act.put, List.getElem_toArray, List.getElem_cons_succ, List.getElem_cons_zero, List.setIfInBounds_toArray, List.set_cons_zero, List.set_cons_succ])
          refine wpL_take' (i := 11) (oi := _) (v := ?_) rfl (by kernel_rfl) (by kernel_rfl) (by kernel_rfl) (by kernel_rfl) (fun _ _ _ h => h) (.inl ⟨by rfl, ?_⟩) (by assumption) ?_
          rotate_left
          · intro W hSw
            (try dsimp only at hSw)
            go_simp
            (try rfl)
          (try simp only [Act.put, List.getElem_toArray, List.getElem_cons_succ, List.getElem_cons_zero, List.setIfInBounds_toArray, List.set_cons_zero, List.set_cons_succ])
          refine wpL_take' (i := 12) (oi := _) (v := ?_) rfl (by kernel_rfl) (by kernel_rfl) (by kernel_rfl) (by kernel_rfl) (fun _ _ _ h => h) (.inl ⟨by rfl, ?_⟩) (by assumption) ?_
          rotate_left
          · intro W hSw
            (try dsimp only at hSw)
            go_simp
            (try rfl)
          (try simp only [Act.put, List.getElem_toArray, List.getElem_cons_succ, List.getElem_cons_zero, List.setIfInBounds_toArray, List.set_cons_zero, List.set_cons_succ])
          refine wpL_take' (i := 13) (oi := _) (v := ?_) rfl (by kernel_rfl) (by kernel_rfl) (by kernel_rfl) (by kernel_rfl) (fun _ _ _ h => h) (.inl ⟨by rfl, ?_⟩) (by assumption) ?_
          rotate_left
          · intro W hSw
            (try dsimp only at hSw)
            go_simp
            (try rfl)
          (try simp only [Act.put, List.getElem_toArray, List.getElem_cons_succ, List.getElem_cons_zero, List.setIfInBounds_toArray, List.set_cons_zero, List.set_cons_succ])
          refine wpL_take' (i := 14) (oi := _) (v := ?_) rfl (by kernel_rfl) (by kernel_rfl) (by kernel_rfl) (by kernel_rfl) (fun _ _ _ h => h) (.inl ⟨by rfl, ?_⟩) (by assumption) ?_
          rotate_left
          · intro W hSw
            (try dsimp only at hSw)
            go_simp
            (try rfl)
          (try simp only [Act.put, List.getElem_toArray, List.getElem_cons_succ, List.getElem_cons_zero, List.setIfInBounds_toArray, List.set_cons_zero, List.set_cons_succ])
          refine wpL_take' (i := 15) (oi := _) (v := ?_) rfl (by kernel_rfl) (by kernel_rfl) (by kernel_rfl) (by kernel_rfl) (fun _ _ _ h => h) (.inl ⟨by rfl, ?_⟩) (by assumption) ?_
          rotate_left
          · intro W hSw
            (try dsimp only at hSw)
            go_simp
            (try rfl)
          (try simp only [Act.put, List.getElem_toArray, List.getElem_cons_succ, List.getElem_cons_zero, List.setIfInBounds_toArray, List.set_cons_zero, List.set_cons_succ])
          refine wpL_ready (rs := [7, 16]) (by kernel_rfl) (by simp) ?_
          refine AllL.cons (o := _) rfl (fun K hK => ?_) (AllL.cons (o := _) rfl (fun K hK => ?_) (AllL.nil))
          · go_simp
            refine (HSN.out _).mono ?_
            rintro e W1 ⟨rfl, hb1⟩
            have B_1 : Hid (Below wr.heap.size wr W1) := B_0.out.trans (hb1.mono B_0.out.size)
            clear hb1
            go_wp2_with fail
            refine hK.out _ _ ⟨fun _ => trivial, HDX.out _ B_1.out⟩ (fun hTill => ?_)
            clear hK K
            (try simp only [Act.put, List.getElem_toArray, List.getElem_cons_succ, List.getElem_cons_zero, List.setIfInBounds_toArray, List.set_cons_zero, List.set_cons_succ])
            refine wpL_take' (i := 8) (oi := _) (v := ?_) rfl (by kernel_rfl) (by kernel_rfl) (by kernel_rfl) (by kernel_rfl) (fun _ _ _ h => h) (.inl ⟨by rfl, ?_⟩) (by assumption) ?_
            rotate_left
            · intro W hSw
              (try dsimp only at hSw)
              go_simp
              (try rfl)
            (try simp only [Act.put, List.getElem_toArray, List.getElem_cons_succ, List.getElem_cons_zero, List.setIfInBounds_toArray, List.set_cons_zero, List.set_cons_succ])
            refine wpL_ready (rs := [16]) (by kernel_rfl) (by simp) ?_
            refine AllL.cons (o := _) rfl (fun K hK => ?_) (AllL.nil)
            obtain ⟨W2, hW2⟩ : ∃ W, World.alloc W1 (.cells #[.int .u8 (ty : Nat)] 5) = W := ⟨_, rfl⟩
            obtain ⟨gb2, hgb2⟩ : ∃ g, Array.size (World.heap W1) = g := ⟨_, rfl⟩
            have B_2 : Hid (Below wr.heap.size wr W2) := by rw [Hid, ← hW2]; exact B_1.out.alloc B_1.out.size _
            have S_2 : Hid (BytesAt W2 (some ⟨gb2, 0, none⟩) [UInt8.ofNat ty]) := by rw [Hid, ← hW2, ← hgb2]; exact opTy_src W1
            go_simp
            (try rw [hW2])
            refine hK.out _ _ ⟨fun _ => trivial, HDX.out _ B_2.out⟩ (fun hTill => ?_)
            clear hK K
            (try simp only [Act.put, List.getElem_toArray, List.getElem_cons_succ, List.getElem_cons_zero, List.setIfInBounds_toArray, List.set_cons_zero, List.set_cons_succ])
            refine wpL_ready (rs := [17]) (by kernel_rfl) (by simp) ?_
            refine AllL.cons (o := _) rfl (fun K hK => ?_) (AllL.nil)
            have hcv3 : (convert 25 9 (.slice (some ⟨gb2, 0, none⟩) 1 1)).run Tryz.prog W2 = .ok (.string (tstr [UInt8.ofNat ty])) W2 := run_tostr W2 (some ⟨gb2, 0, none⟩) [UInt8.ofNat ty] 1 S_2.out
            go_simp
            refine hK.out _ _ ⟨fun _ => trivial, HDX.out _ B_2.out⟩ (fun hTill => ?_)
            clear hK K
            (try simp only [Act.put, List.getElem_toArray, List.getElem_cons_succ, List.getElem_cons_zero, List.setIfInBounds_toArray, List.set_cons_zero, List.set_cons_succ])
            refine wpL_take' (i := 18) (oi := _) (v := ?_) rfl (by kernel_rfl) (by kernel_rfl) (by kernel_rfl) (by kernel_rfl) (fun _ _ _ h => h) (.inl ⟨by rfl, ?_⟩) (by assumption) ?_
            rotate_left
            · intro W hSw
              (try dsimp only at hSw)
              go_simp
              (try rfl)
            (try simp only [Act.put, List.getElem_toArray, List.getElem_cons_succ, List.getElem_cons_zero, List.setIfInBounds_toArray, List.set_cons_zero, List.set_cons_succ])
            refine wpL_take' (i := 19) (oi := _) (v := ?_) rfl (by kernel_rfl) (by kernel_rfl) (by kernel_rfl) (by kernel_rfl) (fun _ _ _ h => h) (.inl ⟨by rfl, ?_⟩) (by assumption) ?_
            rotate_left
            · intro W hSw
              (try dsimp only at hSw)
              go_simp
              (try rfl)
            (try simp only [Act.put, List.getElem_toArray, List.getElem_cons_succ, List.getElem_cons_zero, List.setIfInBounds_toArray, List.set_cons_zero, List.set_cons_succ])
            refine wpL_done (by kernel_rfl) ?_ _
            clear hTill
            go_wp2_with fail
            exact ⟨⟨k + 1, _, by omega, by go_num, rfl, HR3.out, HBX.out.trans (B_2.out.mono HBX.out.size)⟩, by simp [intOf]; omega⟩
          · obtain ⟨W4, hW4⟩ : ∃ W, World.alloc wr.drew (.cells #[.int .u8 (ty : Nat)] 5) = W := ⟨_, rfl⟩
            obtain ⟨gb4, hgb4⟩ : ∃ g, Array.size (World.heap wr.drew) = g := ⟨_, rfl⟩
            have B_4 : Hid (Below wr.heap.size wr W4) := by rw [Hid, ← hW4]; exact B_0.out.alloc B_0.out.size _
            have S_4 : Hid (BytesAt W4 (some ⟨gb4, 0, none⟩) [UInt8.ofNat ty]) := by rw [Hid, ← hW4, ← hgb4]; exact opTy_src wr.drew
            go_simp
            (try rw [hW4])
            refine hK.out _ _ ⟨fun _ => trivial, HDX.out _ B_4.out⟩ (fun hTill => ?_)
            clear hK K
            (try simp only [Act.put, List.getElem_toArray, List.getElem_cons_succ, List.getElem_cons_zero, List.setIfInBounds_toArray, List.set_cons_zero, List.set_cons_succ])
            refine wpL_ready (rs := [7, 17]) (by kernel_rfl) (by simp) ?_
            refine AllL.cons (o := _) rfl (fun K hK => ?_) (AllL.cons (o := _) rfl (fun K hK => ?_) (AllL.nil))
            · go_simp
              refine (HSN.out _).mono ?_
              rintro e W5 ⟨rfl, hb5⟩
              have B_5 : Hid (Below wr.heap.size wr W5) := B_4.out.trans (hb5.mono B_4.out.size)
              have S_5_16 : Hid (BytesAt W5 (some ⟨gb4, 0, none⟩) [UInt8.ofNat ty]) := S_4.out.keep hb5
              clear hb5
              go_wp2_with fail
              refine hK.out _ _ ⟨fun _ => trivial, HDX.out _ B_5.out⟩ (fun hTill => ?_)
              clear hK K
              (try simp only [Act.put, List.getElem_toArray, List.getElem_cons_succ, List.getElem_cons_zero, List.setIfInBounds_toArray, List.set_cons_zero, List.set_cons_succ])
              refine wpL_take' (i := 8) (oi := _) (v := ?_) rfl (by kernel_rfl) (by kernel_rfl) (by kernel_rfl) (by kernel_rfl) (fun _ _ _ h => h) (.inl ⟨by rfl, ?_⟩) (by assumption) ?_
              rotate_left
              · intro W hSw
                (try dsimp only at hSw)
                go_simp
                (try rfl)
              (try simp only [Act.put, List.getElem_toArray, List.getElem_cons_succ, List.getElem_cons_zero, List.setIfInBounds_toArray, List.set_cons_zero, List.set_cons_succ])
              refine wpL_ready (rs := [17]) (by kernel_rfl) (by simp) ?_
              refine AllL.cons (o := _) rfl (fun K hK => ?_) (AllL.nil)
              have hcv6 : (convert 25 9 (.slice (some ⟨gb4, 0, none⟩) 1 1)).run Tryz.prog W5 = .ok (.string (tstr [UInt8.ofNat ty])) W5 := run_tostr W5 (some ⟨gb4, 0, none⟩) [UInt8.ofNat ty] 1 S_5_16.out
              go_simp
              refine hK.out _ _ ⟨fun _ => trivial, HDX.out _ B_5.out⟩ (fun hTill => ?_)
              clear hK K
              (try simp only [Act.put, List.getElem_toArray, List.getElem_cons_succ, List.getElem_cons_zero, List.setIfInBounds_toArray, List.set_cons_zero, List.set_cons_succ])
              refine wpL_take' (i := 18) (oi := _) (v := ?_) rfl (by kernel_rfl) (by kernel_rfl) (by kernel_rfl) (by kernel_rfl) (fun _ _ _ h => h) (.inl ⟨by rfl, ?_⟩) (by assumption) ?_
              rotate_left
              · intro W hSw
                (try dsimp only at hSw)
                go_simp
                (try rfl)
              (try simp only [Act.put, List.getElem_toArray, List.getElem_cons_succ, List.getElem_cons_zero, List.setIfInBounds_toArray, List.set_cons_zero, List.set_cons_succ])
              refine wpL_take' (i := 19) (oi := _) (v := ?_) rfl (by kernel_rfl) (by kernel_rfl) (by kernel_rfl) (by kernel_rfl) (fun _ _ _ h => h) (.inl ⟨by rfl, ?_⟩) (by assumption) ?_
              rotate_left
              · intro W hSw
                (try dsimp only at hSw)
                go_simp
                (try rfl)
              (try simp only [Act.put, List.getElem_toArray, List.getElem_cons_succ, List.getElem_cons_zero, List.setIfInBounds_toArray, List.set_cons_zero, List.set_cons_succ])
              refine wpL_done (by kernel_rfl) ?_ _
              clear hTill
              go_wp2_with fail
              exact ⟨⟨k + 1, _, by omega, by go_num, rfl, HR3.out, HBX.out.trans (B_5.out.mono HBX.out.size)⟩, by simp [intOf]; omega⟩
            · have hcv7 : (convert 25 9 (.slice (some ⟨gb4, 0, none⟩) 1 1)).run Tryz.prog W4 = .ok (.string (tstr [UInt8.ofNat ty])) W4 := run_tostr W4 (some ⟨gb4, 0, none⟩) [UInt8.ofNat ty] 1 S_4.out
              go_simp
              refine hK.out _ _ ⟨fun _ => trivial, HDX.out _ B_4.out⟩ (fun hTill => ?_)
              clear hK K
              (try simp only [Act.put, List.getElem_toArray, List.getElem_cons_succ, List.getElem_cons_zero, List.setIfInBounds_toArray, List.set_cons_zero, List.set_cons_succ])
              refine wpL_ready (rs := [7]) (by kernel_rfl) (by simp) ?_
              refine AllL.cons (o := _) rfl (fun K hK => ?_) (AllL.nil)
              go_simp
              refine (HSN.out _).mono ?_
              rintro e W8 ⟨rfl, hb8⟩
              have B_8 : Hid (Below wr.heap.size wr W8) := B_4.out.trans (hb8.mono B_4.out.size)
              have S_8_16 : Hid (BytesAt W8 (some ⟨gb4, 0, none⟩) [UInt8.ofNat ty]) := S_4.out.keep hb8
              clear hb8
              go_wp2_with fail
              refine hK.out _ _ ⟨fun _ => trivial, HDX.out _ B_8.out⟩ (fun hTill => ?_)
              clear hK K
              (try simp only [Act.put, List.getElem_toArray, List.getElem_cons_succ, List.getElem_cons_zero, List.setIfInBounds_toArray, List.set_cons_zero, List.set_cons_succ])
              refine wpL_take' (i := 8) (oi := _) (v := ?_) rfl (by kernel_rfl) (by kernel_rfl) (by kernel_rfl) (by kernel_rfl) (fun _ _ _ h => h) (.inl ⟨by rfl, ?_⟩) (by assumption) ?_
              rotate_left
              · intro W hSw
                (try dsimp only at hSw)
                go_simp
                (try rfl)
              (try simp only [Act.put, List.getElem_toArray, List.getElem_cons_succ, List.getElem_cons_zero, List.setIfInBounds_toArray, List.set_cons_zero, List.set_cons_succ])
              refine wpL_take' (i := 18) (oi := _) (v := ?_) rfl (by kernel_rfl) (by kernel_rfl) (by kernel_rfl) (by kernel_rfl) (fun _ _ _ h => h) (.inl ⟨by rfl, ?_⟩) (by assumption) ?_
              rotate_left
              · intro W hSw
                (try dsimp only at hSw)
                go_simp
                (try rfl)
              (try simp only [Act.put, List.getElem_toArray, List.getElem_cons_succ, List.getElem_cons_zero, List.setIfInBounds_toArray, List.set_cons_zero, List.set_cons_succ])
              refine wpL_take' (i := 19) (oi := _) (v := ?_) rfl (by kernel_rfl) (by kernel_rfl) (by kernel_rfl) (by kernel_rfl) (fun _ _ _ h => h) (.inl ⟨by rfl, ?_⟩) (by assumption) ?_
              rotate_left
              · intro W hSw
                (try dsimp only at hSw)
                go_simp
                (try rfl)
              (try simp only [Act.put, List.getElem_toArray, List.getElem_cons_succ, List.getElem_cons_zero, List.setIfInBounds_toArray, List.set_cons_zero, List.set_cons_succ])
              refine wpL_done (by kernel_rfl) ?_ _
              clear hTill
              go_wp2_with fail
              exact ⟨⟨k + 1, _, by omega, by go_num, rfl, HR3.out, HBX.out.trans (B_8.out.mono HBX.out.size)⟩, by simp [intOf]; omega⟩
        · obtain rfl : k = nc := by omega
          have hfin : r = Pl.encOp ⟨kind, table, cols, row⟩ := by
            rw [HEN.out, HR.out, List.take_of_length_le (by rw [HNC.out]; exact Nat.le_refl _)]
            unfold Pl.encCols
            rw [HNC.out]
          have HFIN := Lib.hid hfin
          clear hfin
          go_wp2_with fail
          go_ret
          exact ⟨by rw [HFIN.out]; rfl, HBW.out.trans (HBX.out.mono HBW.out.size)⟩
    · by_cases k4 : kind = 4
      · have q1 : ((kind : Int) == 1) = false := beq_eq_false_iff_ne.2 (by omega)
        have q4 : ((kind : Int) == 4) = true := by rw [k4]; rfl
        obtain ⟨x, rfl⟩ := H4.out k4
        rw [if_neg k1, if_pos k4, List.flatMap_cons, List.flatMap_nil, List.append_nil] at hEN
        have hn1 : (0 : Int) < (nr : Int) := by have := HNR.out; simp at this; omega
        have HEN := Lib.hid hEN
        have at_ := flat_at (f := vc) (s := 3) (fun _ => rfl) [x] 0 x rfl
        obtain ⟨b, off, rfl, g0⟩ := HSRx.out.at_ _ _ (at_ 0 (by omega))
        have g1 := HSRx.out.cell _ _ (at_ 1 (by omega))
        have g2 := HSRx.out.cell _ _ (at_ 2 (by omega))
        simp only [Nat.zero_mul, Nat.add_zero, Nat.zero_add] at g0 g1 g2
        have hxb := HRB.out x (by simp)
        have HL := Lib.hid (refLaid_any x wc hxb)
        have k5 : ∀ W, (Op.stringOp .add (tstr hd) (tstr (Pl.encV x))).run Tryz.prog W = .ok (.string (tstr (Pl.encOp ⟨kind, table, cols, [x]⟩))) W := fun W => by rw [HEN.out]; exact run_cat W hd (Pl.encV x) (by have := hdl.out; have := encV_len hxb; omega)
        clear k1 k4 hEN at_ hxb
        go_wp2_with fail
        refine HL.out.mono ?_
        rintro e w3 ⟨rfl, hb3⟩
        have HB3 := Lib.hid (HBWX.out.trans (hb3.mono HBWX.out.size))
        clear hb3
        go_wp2_with fail
        go_ret
        exact ⟨rfl, HB3.out⟩
      · have q1 : ((kind : Int) == 1) = false := beq_eq_false_iff_ne.2 (by omega)
        have q4 : ((kind : Int) == 4) = false := beq_eq_false_iff_ne.2 (by omega)
        rw [if_neg k1, if_neg k4] at hEN
        have HEN := Lib.hid hEN
        clear k1 k4 hEN
        have wn := wrap_u8 (show nr < 256 by omega)
        have ho := run_one nr (by omega) wc
        obtain ⟨w2, hw2⟩ : ∃ W, wc.alloc (.cells #[.int .u8 (nr : Int)] 5) = W := ⟨_, rfl⟩
        rw [hw2] at ho
        have hb2 : Below wb.heap.size wb w2 := by rw [← hw2]; exact HX.out.alloc HX.out.size _
        have HB2 := Lib.hid hb2
        obtain ⟨r0, hr0⟩ : ∃ l, hd ++ [UInt8.ofNat nr] = l := ⟨_, rfl⟩
        have hcat2 : ∀ W, (Op.stringOp .add (tstr hd) (tstr [UInt8.ofNat nr])).run Tryz.prog W = .ok (.string (tstr r0)) W := fun W => by rw [← hr0]; exact run_cat W hd [UInt8.ofNat nr] (by have := hdl.out; simp; omega)
        have HR0 := Lib.hid hr0
        clear hr0 hb2
        go_wp2_with fail
        go_loopw [3, 5] (fun s i wr => ∃ (k : Nat) (r : List UInt8), k ≤ nr ∧ i = .int .i64 (k : Int) ∧ s = .string (tstr r) ∧ Hid (r = hd ++ UInt8.ofNat nr :: (row.take k).flatMap Pl.encV) ∧ Hid (Below wb.heap.size wb wr)) (fun _ i _ => nr - (intOf i).toNat)
        case atStart => exact ⟨0, r0, Nat.zero_le _, rfl, rfl, by rw [Hid, ← HR0.out]; simp, HB2.out⟩
        case round =>
          obtain ⟨k, r, hk, rfl, rfl, HR, HBX⟩ := hrel
          obtain ⟨x0, x1, x2, x3⟩ := HD.out _ HBX.out
          by_cases hkn : k < nr
          · have q2 : (k : Int) < (nr : Int) := by omega
            have q3 : (0 : Int) ≤ (k : Int) := by omega
            obtain ⟨x, hc⟩ : ∃ c, row[k]? = some c := ⟨_, List.getElem?_eq_getElem (by rw [HNR.out]; exact hkn)⟩
            have hsr := HSR.out.below HBX.out
            have at_ := flat_at (f := vc) (s := 3) (fun _ => rfl) row k x hc
            obtain ⟨b, off, rfl, g0⟩ := hsr.at_ _ _ (at_ 0 (by omega))
            have g1 := hsr.cell _ _ (at_ 1 (by omega))
            have g2 := hsr.cell _ _ (at_ 2 (by omega))
            rw [← Nat.add_assoc] at g1 g2
            rw [Nat.add_zero] at g0
            have hf := flat_len (f := Pl.encV) (m := 257) (row.take k) (fun y hy => encV_len (HRB.out y (List.mem_of_mem_take hy)))
            have ht : (row.take k).length ≤ 256 := by rw [List.length_take]; omega
            have hrl : r.length ≤ 100000 := by rw [HR.out, List.length_append, List.length_cons]; have := hdl.out; omega
            have hxb := HRB.out x (List.mem_of_getElem? hc)
            have hR3 : r ++ Pl.encV x = hd ++ UInt8.ofNat nr :: (row.take (k + 1)).flatMap Pl.encV := by
              rw [flat_succ _ hc, HR.out]
              simp
            have HL := Lib.hid (refLaid_any x wr hxb)
            obtain ⟨r3, hr3⟩ : ∃ l, r ++ Pl.encV x = l := ⟨_, rfl⟩
            have k5 : ∀ W, (Op.stringOp .add (tstr r) (tstr (Pl.encV x))).run Tryz.prog W = .ok (.string (tstr r3)) W := fun W => by rw [← hr3]; exact run_cat W r (Pl.encV x) (by have := encV_len hxb; omega)
            rw [hr3] at hR3
            have HR3 := Lib.hid hR3
            clear hc hsr at_ hf ht hrl hR3 hr3 hxb
            go_wp2_with fail
            refine HL.out.mono ?_
            rintro e w3 ⟨rfl, hb3⟩
            have HB3 := Lib.hid (HBX.out.trans (hb3.mono HBX.out.size))
            clear hb3
            go_wp2_with fail
            exact ⟨⟨k + 1, _, by omega, by go_num, rfl, HR3.out, HB3.out⟩, by simp [intOf]; omega⟩
          · obtain rfl : k = nr := by omega
            have hfin : r = Pl.encOp ⟨kind, table, cols, row⟩ := by
              rw [HEN.out, HR.out, List.take_of_length_le (by rw [HNR.out]; exact Nat.le_refl _)]
              unfold Pl.encRow
              rw [HNR.out]
            have HFIN := Lib.hid hfin
            clear hfin
            go_wp2_with fail
            go_ret
            exact ⟨by rw [HFIN.out]; rfl, HBW.out.trans (HBX.out.mono HBW.out.size)⟩
end Go.Proofs.YtljmklohgpaopaaGreatDoor
