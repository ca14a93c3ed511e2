/- The document's Payload. The document's cursor: take, num, short, value. The document's cursor: value. The document's op: what its walk keeps. -/
import Derived.Test.YtljmklohgpaopaaGreatDoorMgClashes13
set_option linter.unusedVariables false
set_option linter.unusedSimpArgs false

namespace Go.Proofs.YtljmklohgpaopaaGreatDoor
open Go.RowKit

theorem refBytes_tx (v n : Nat) (w : World) (hv : v < 18446744073709551616) (hn : n ≤ 8) : Calls Tryz.prog 39 #[.int .u64 v, .int .i64 n] w (TX w (Pl.be n v)) := (refBytes_any v n w hv hn).mono fun _ _ h => h
set_option maxHeartbeats 2000000 in
set_option maxRecDepth 100000 in
theorem refPayload_any (P : Nat → Prop) (c : List Value) (t : Pl.Txn) (w : World) (hR : TxR w P c t) (hP : ∀ b, P b → b < w.heap.size) (hok : ∀ o ∈ t.ops, Pl.OpOk o) (hti : t.time < 18446744073709551616) (hl : t.ops.length < 256) :
    Calls Tryz.prog 72 #[.agg c.toArray] w (TX w (Pl.payload t)) := by
  obtain ⟨A, cap, cs, rfl, hcap, hs, hrows, hA⟩ := hR
  obtain ⟨time, ops⟩ := t
  dsimp only at hcap hrows hok hl hti ⊢
  obtain ⟨n, hn⟩ : ∃ n, ops.length = n := ⟨_, rfl⟩
  rw [hn] at hcap hl ⊢
  have ww := wrap_sig hti
  have wn := wrap_u8 hl
  obtain ⟨wb, hwb⟩ : ∃ wb, w.alloc (.cells #[.int .i64 (sig time), .slice A n cap] 90) = wb := ⟨_, rfl⟩
  obtain ⟨gb, hgb⟩ : ∃ g, w.heap.size = g := ⟨_, rfl⟩
  have BB : Blk wb gb 90 [.int .i64 (sig time), .slice A n cap] := by rw [← hwb, ← hgb]; exact Blk.new w 90 _
  have hbb : Below w.heap.size w wb := by rw [← hwb]; exact below_alloc _ _
  have HD := Lib.hid (show ∀ W, Below wb.heap.size wb W → W.cell? ⟨gb, 0, none⟩ = some (.int .i64 (sig time)) ∧ W.cell? ⟨gb, 1, none⟩ = some (.slice A n cap) from fun W hb => ⟨(BB.below hb BB.lt).cell 0, (BB.below hb BB.lt).cell 1⟩)
  have HSZ : Hid (wb.heap.size = w.heap.size + 1) := by rw [Hid, ← hwb]; simp
  have HN := Lib.hid hn
  have HS := Lib.hid (hs.below hbb)
  have HRW := Lib.hid (hrows.mono (fun _ _ _ h => OpR.fr _ _ P _ wb _ _ h (Only.of_below hbb (fun _ => False)) (fun _ _ h => h) (fun _ h => h)))
  have HOK := Lib.hid hok
  have HP := Lib.hid hP
  have HBB := Lib.hid hbb
  have HBY := Lib.hid (fun W => refBytes_tx time 8 W hti (by omega))
  have B_0 : Hid (Below wb.heap.size wb wb.drew) := (Below.refl _ _).drew
  obtain ⟨hd, hhd⟩ : ∃ l, Pl.be 8 time ++ [UInt8.ofNat n] = l := ⟨_, rfl⟩
  have hcat : ∀ W, (Op.stringOp .add (tstr (Pl.be 8 time)) (tstr [UInt8.ofNat n])).run Tryz.prog W = .ok (.string (tstr hd)) W := fun W => by rw [← hhd]; exact run_cat W (Pl.be 8 time) [UInt8.ofNat n] (by simp [Pl.be_length])
  have hdl : Hid (hd.length = 9) := by rw [Hid, ← hhd]; simp [Pl.be_length]
  have HHD := Lib.hid hhd
  have opN_src : ∀ W : World, BytesAt (W.alloc (.cells #[.int .u8 (n : Nat)] 5)) (some ⟨W.heap.size, 0, none⟩) [UInt8.ofNat n] := fun W => (src_one W n hl).bytes
  clear hn hs hrows hok hP hbb BB hhd
  go_enter Tryz.func72, Tryz.ntmps72
  go_wp2_with fail
  go_cut [3] from 5 (fun s3 wx => s3 = .string (tstr hd) ∧ Hid (Below wb.heap.size wb wx))
  case first =>
    refine wp_region_L 99 (fun _ => True) (fun W => W.cell? ⟨gb, 0, none⟩ = some (.int .i64 (sig time)) ∧ W.cell? ⟨gb, 1, none⟩ = some (.slice A n cap)) (by kernel_rfl) trivial (HD.out _ B_0.out) (fun hTill => ?_)
    refine wpL_take' (i := 0) (oi := _) (v := ?_) rfl (by kernel_rfl) (by kernel_rfl) (by kernel_rfl) (by kernel_rfl) (fun _ _ _ h => h) (.inl ⟨by rfl, ?_⟩) (by assumption) ?_
    rotate_left
    · intro W hSw
      (try dsimp only at hSw)
      go_simp
      (try rfl)
    (try simp only [Act.put, List.getElem_toArray, List.getElem_cons_succ, List.getElem_cons_zero, List.setIfInBounds_toArray, List.set_cons_zero, List.set_cons_succ])
    refine wpL_take' (i := 1) (oi := _) (v := ?_) rfl (by kernel_rfl) (by kernel_rfl) (by kernel_rfl) (by kernel_rfl) (fun _ _ _ h => h) (.inl ⟨by rfl, ?_⟩) (by assumption) ?_
    rotate_left
    · intro W hSw
      (try dsimp only at hSw)
      go_simp
      (try rfl)
    (try simp only [Act.put, List.getElem_toArray, List.getElem_cons_succ, List.getElem_cons_zero, List.setIfInBounds_toArray, List.set_cons_zero, List.set_cons_succ])
    refine wpL_take' (i := 2) (oi := _) (v := ?_) rfl (by kernel_rfl) (by kernel_rfl) (by kernel_rfl) (by kernel_rfl) (fun _ _ _ h => h) (.inl ⟨by rfl, ?_⟩) (by assumption) ?_
    rotate_left
    · intro W hSw
      (try dsimp only at hSw)
      go_simp
      (try rfl)
    (try simp only [Act.put, List.getElem_toArray, List.getElem_cons_succ, List.getElem_cons_zero, List.setIfInBounds_toArray, List.set_cons_zero, List.set_cons_succ])
    refine wpL_take' (i := 4) (oi := _) (v := ?_) rfl (by kernel_rfl) (by kernel_rfl) (by kernel_rfl) (by kernel_rfl) (fun _ _ _ h => h) (.inl ⟨by rfl, ?_⟩) (by assumption) ?_
    rotate_left
    · intro W hSw
      (try dsimp only at hSw)
      go_simp
      (try rfl)
    (try simp only [Act.put, List.getElem_toArray, List.getElem_cons_succ, List.getElem_cons_zero, List.setIfInBounds_toArray, List.set_cons_zero, List.set_cons_succ])
    refine wpL_take' (i := 5) (oi := _) (v := ?_) rfl (by kernel_rfl) (by kernel_rfl) (by kernel_rfl) (by kernel_rfl) (fun _ _ _ h => h) (.inl ⟨by rfl, ?_⟩) (by assumption) ?_
    rotate_left
    · intro W hSw
      (try dsimp only at hSw)
      go_simp
      (try rfl)
    (try simp only [Act.put, List.getElem_toArray, List.getElem_cons_succ, List.getElem_cons_zero, List.setIfInBounds_toArray, List.set_cons_zero, List.set_cons_succ])
    refine wpL_take' (i := 6) (oi := _) (v := ?_) rfl (by kernel_rfl) (by kernel_rfl) (by kernel_rfl) (by kernel_rfl) (fun _ _ _ h => h) (.inl ⟨by rfl, ?_⟩) (by assumption) ?_
    rotate_left
    · intro W hSw
      (try dsimp only at hSw)
      go_simp
      (try rfl)
    (try simp only [Act.put, List.getElem_toArray, List.getElem_cons_succ, List.getElem_cons_zero, List.setIfInBounds_toArray, List.set_cons_zero, List.set_cons_succ])
    refine wpL_take' (i := 7) (oi := _) (v := ?_) rfl (by kernel_rfl) (by kernel_rfl) (by kernel_rfl) (by kernel_rfl) (fun _ _ _ h => h) (.inl ⟨by rfl, ?_⟩) (by assumption) ?_
    rotate_left
    · intro W hSw
      (try dsimp only at hSw)
      go_simp
      (try rfl)
    (try simp only [Act.put, List.getElem_toArray, List.getElem_cons_succ, List.getElem_cons_zero, List.setIfInBounds_toArray, List.set_cons_zero, List.set_cons_succ])
    refine wpL_ready (rs := [3, 8]) (by kernel_rfl) (by simp) ?_
    refine AllL.cons (o := _) rfl (fun K hK => ?_) (AllL.cons (o := _) rfl (fun K hK => ?_) (AllL.nil))
    · go_simp
      refine (HBY.out _).mono ?_
      rintro e W1 ⟨rfl, hb1⟩
      have B_1 : Hid (Below wb.heap.size wb W1) := B_0.out.trans (hb1.mono B_0.out.size)
      clear hb1
      go_wp2_with fail
      refine hK.out _ _ ⟨fun _ => trivial, HD.out _ B_1.out⟩ (fun hTill => ?_)
      clear hK K
      (try simp only [Act.put, List.getElem_toArray, List.getElem_cons_succ, List.getElem_cons_zero, List.setIfInBounds_toArray, List.set_cons_zero, List.set_cons_succ])
      refine wpL_ready (rs := [8]) (by kernel_rfl) (by simp) ?_
      refine AllL.cons (o := _) rfl (fun K hK => ?_) (AllL.nil)
      obtain ⟨W2, hW2⟩ : ∃ W, World.alloc W1 (.cells #[.int .u8 (n : Nat)] 5) = W := ⟨_, rfl⟩
      obtain ⟨gb2, hgb2⟩ : ∃ g, Array.size (World.heap W1) = g := ⟨_, rfl⟩
      have B_2 : Hid (Below wb.heap.size wb W2) := by rw [Hid, ← hW2]; exact B_1.out.alloc B_1.out.size _
      have S_2 : Hid (BytesAt W2 (some ⟨gb2, 0, none⟩) [UInt8.ofNat n]) := by rw [Hid, ← hW2, ← hgb2]; exact opN_src W1
      go_simp
      (try rw [hW2])
      refine hK.out _ _ ⟨fun _ => trivial, HD.out _ B_2.out⟩ (fun hTill => ?_)
      clear hK K
      (try simp only [Act.put, List.getElem_toArray, List.getElem_cons_succ, List.getElem_cons_zero, List.setIfInBounds_toArray, List.set_cons_zero, List.set_cons_succ])
      refine wpL_ready (rs := [9]) (by kernel_rfl) (by simp) ?_
      refine AllL.cons (o := _) rfl (fun K hK => ?_) (AllL.nil)
      have hcv3 : (convert 25 9 (.slice (some ⟨gb2, 0, none⟩) 1 1)).run Tryz.prog W2 = .ok (.string (tstr [UInt8.ofNat n])) W2 := run_tostr W2 (some ⟨gb2, 0, none⟩) [UInt8.ofNat n] 1 S_2.out
      go_simp
      refine hK.out _ _ ⟨fun _ => trivial, HD.out _ B_2.out⟩ (fun hTill => ?_)
      clear hK K
      (try simp only [Act.put, List.getElem_toArray, List.getElem_cons_succ, List.getElem_cons_zero, List.setIfInBounds_toArray, List.set_cons_zero, List.set_cons_succ])
      refine wpL_take' (i := 10) (oi := _) (v := ?_) rfl (by kernel_rfl) (by kernel_rfl) (by kernel_rfl) (by kernel_rfl) (fun _ _ _ h => h) (.inl ⟨by rfl, ?_⟩) (by assumption) ?_
      rotate_left
      · intro W hSw
        (try dsimp only at hSw)
        go_simp
        (try rfl)
      (try simp only [Act.put, List.getElem_toArray, List.getElem_cons_succ, List.getElem_cons_zero, List.setIfInBounds_toArray, List.set_cons_zero, List.set_cons_succ])
      refine wpL_take' (i := 11) (oi := _) (v := ?_) rfl (by kernel_rfl) (by kernel_rfl) (by kernel_rfl) (by kernel_rfl) (fun _ _ _ h => h) (.inl ⟨by rfl, ?_⟩) (by assumption) ?_
      rotate_left
      · intro W hSw
        (try dsimp only at hSw)
        go_simp
        (try rfl)
      (try simp only [Act.put, List.getElem_toArray, List.getElem_cons_succ, List.getElem_cons_zero, List.setIfInBounds_toArray, List.set_cons_zero, List.set_cons_succ])
      refine wpL_done (by kernel_rfl) ?_ _
      clear hTill
      go_wp2_with fail
      go_meet
      exact ⟨rfl, B_2.out⟩
    · obtain ⟨W4, hW4⟩ : ∃ W, World.alloc wb.drew (.cells #[.int .u8 (n : Nat)] 5) = W := ⟨_, rfl⟩
      obtain ⟨gb4, hgb4⟩ : ∃ g, Array.size (World.heap wb.drew) = g := ⟨_, rfl⟩
      have B_4 : Hid (Below wb.heap.size wb W4) := by rw [Hid, ← hW4]; exact B_0.out.alloc B_0.out.size _
      have S_4 : Hid (BytesAt W4 (some ⟨gb4, 0, none⟩) [UInt8.ofNat n]) := by rw [Hid, ← hW4, ← hgb4]; exact opN_src wb.drew
      go_simp
      (try rw [hW4])
      refine hK.out _ _ ⟨fun _ => trivial, HD.out _ B_4.out⟩ (fun hTill => ?_)
      clear hK K
      (try simp only [Act.put, List.getElem_toArray, List.getElem_cons_succ, List.getElem_cons_zero, List.setIfInBounds_toArray, List.set_cons_zero, List.set_cons_succ])
      refine wpL_ready (rs := [3, 9]) (by kernel_rfl) (by simp) ?_
      refine AllL.cons (o := _) rfl (fun K hK => ?_) (AllL.cons (o := _) rfl (fun K hK => ?_) (AllL.nil))
      · go_simp
        refine (HBY.out _).mono ?_
        rintro e W5 ⟨rfl, hb5⟩
        have B_5 : Hid (Below wb.heap.size wb W5) := B_4.out.trans (hb5.mono B_4.out.size)
        have S_5_8 : Hid (BytesAt W5 (some ⟨gb4, 0, none⟩) [UInt8.ofNat n]) := S_4.out.keep hb5
        clear hb5
        go_wp2_with fail
        refine hK.out _ _ ⟨fun _ => trivial, HD.out _ B_5.out⟩ (fun hTill => ?_)
        clear hK K
        (try simp only [Act.put, List.getElem_toArray, List.getElem_cons_succ, List.getElem_cons_zero, List.setIfInBounds_toArray, List.set_cons_zero, List.set_cons_succ])
        refine wpL_ready (rs := [9]) (by kernel_rfl) (by simp) ?_
        refine AllL.cons (o := _) rfl (fun K hK => ?_) (AllL.nil)
        have hcv6 : (convert 25 9 (.slice (some ⟨gb4, 0, none⟩) 1 1)).run Tryz.prog W5 = .ok (.string (tstr [UInt8.ofNat n])) W5 := run_tostr W5 (some ⟨gb4, 0, none⟩) [UInt8.ofNat n] 1 S_5_8.out
        go_simp
        refine hK.out _ _ ⟨fun _ => trivial, HD.out _ B_5.out⟩ (fun hTill => ?_)
        clear hK K
        (try simp only [Act.put, List.getElem_toArray, List.getElem_cons_succ, List.getElem_cons_zero, List.setIfInBounds_toArray, List.set_cons_zero, List.set_cons_succ])
        refine wpL_take' (i := 10) (oi := _) (v := ?_) rfl (by kernel_rfl) (by kernel_rfl) (by kernel_rfl) (by kernel_rfl) (fun _ _ _ h => h) (.inl ⟨by rfl, ?_⟩) (by assumption) ?_
        rotate_left
        · intro W hSw
          (try dsimp only at hSw)
          go_simp
          (try rfl)
        (try simp only [Act.put, List.getElem_toArray, List.getElem_cons_succ, List.getElem_cons_zero, List.setIfInBounds_toArray, List.set_cons_zero, List.set_cons_succ])
        refine wpL_take' (i := 11) (oi := _) (v := ?_) rfl (by kernel_rfl) (by kernel_rfl) (by kernel_rfl) (by kernel_rfl) (fun _ _ _ h => h) (.inl ⟨by rfl, ?_⟩) (by assumption) ?_
        rotate_left
        · intro W hSw
          (try dsimp only at hSw)
          go_simp
          (try rfl)
        (try simp only [Act.put, List.getElem_toArray, List.getElem_cons_succ, List.getElem_cons_zero, List.setIfInBounds_toArray, List.set_cons_zero, List.set_cons_succ])
        refine wpL_done (by kernel_rfl) ?_ _
        clear hTill
        go_wp2_with fail
        go_meet
        exact ⟨rfl, B_5.out⟩
      · have hcv7 : (convert 25 9 (.slice (some ⟨gb4, 0, none⟩) 1 1)).run Tryz.prog W4 = .ok (.string (tstr [UInt8.ofNat n])) W4 := run_tostr W4 (some ⟨gb4, 0, none⟩) [UInt8.ofNat n] 1 S_4.out
        go_simp
        refine hK.out _ _ ⟨fun _ => trivial, HD.out _ B_4.out⟩ (fun hTill => ?_)
        clear hK K
        (try simp only [Act.put, List.getElem_toArray, List.getElem_cons_succ, List.getElem_cons_zero, List.setIfInBounds_toArray, List.set_cons_zero, List.set_cons_succ])
        refine wpL_ready (rs := [3]) (by kernel_rfl) (by simp) ?_
        refine AllL.cons (o := _) rfl (fun K hK => ?_) (AllL.nil)
        go_simp
        refine (HBY.out _).mono ?_
        rintro e W8 ⟨rfl, hb8⟩
        have B_8 : Hid (Below wb.heap.size wb W8) := B_4.out.trans (hb8.mono B_4.out.size)
        have S_8_8 : Hid (BytesAt W8 (some ⟨gb4, 0, none⟩) [UInt8.ofNat n]) := S_4.out.keep hb8
        clear hb8
        go_wp2_with fail
        refine hK.out _ _ ⟨fun _ => trivial, HD.out _ B_8.out⟩ (fun hTill => ?_)
        clear hK K
        (try simp only [Act.put, List.getElem_toArray, List.getElem_cons_succ, List.getElem_cons_zero, List.setIfInBounds_toArray, List.set_cons_zero, List.set_cons_succ])
        refine wpL_take' (i := 10) (oi := _) (v := ?_) rfl (by kernel_rfl) (by kernel_rfl) (by kernel_rfl) (by kernel_rfl) (fun _ _ _ h => h) (.inl ⟨by rfl, ?_⟩) (by assumption) ?_
        rotate_left
        · intro W hSw
          (try dsimp only at hSw)
          go_simp
          (try rfl)
        (try simp only [Act.put, List.getElem_toArray, List.getElem_cons_succ, List.getElem_cons_zero, List.setIfInBounds_toArray, List.set_cons_zero, List.set_cons_succ])
        refine wpL_take' (i := 11) (oi := _) (v := ?_) rfl (by kernel_rfl) (by kernel_rfl) (by kernel_rfl) (by kernel_rfl) (fun _ _ _ h => h) (.inl ⟨by rfl, ?_⟩) (by assumption) ?_
        rotate_left
        · intro W hSw
          (try dsimp only at hSw)
          go_simp
          (try rfl)
        (try simp only [Act.put, List.getElem_toArray, List.getElem_cons_succ, List.getElem_cons_zero, List.setIfInBounds_toArray, List.set_cons_zero, List.set_cons_succ])
        refine wpL_done (by kernel_rfl) ?_ _
        clear hTill
        go_wp2_with fail
        go_meet
        exact ⟨rfl, B_8.out⟩
  case rest =>
    obtain ⟨rfl, HX⟩ := hcut
    clear ww wn hcat opN_src
    go_wp2_with fail
    go_loopw [3, 4] (fun s i wr => ∃ (k : Nat) (r : List UInt8), k ≤ n ∧ i = .int .i64 (k : Int) ∧ s = .string (tstr r) ∧ Hid (r = hd ++ (ops.take k).flatMap Pl.encOp) ∧ Hid (Below wb.heap.size wb wr)) (fun _ i _ => n - (intOf i).toNat)
    case atStart => exact ⟨0, hd, Nat.zero_le _, rfl, rfl, by simp [Hid], HX.out⟩
    case round =>
      obtain ⟨k, r, hk, rfl, rfl, HR, HB⟩ := hrel
      obtain ⟨_, d1⟩ := HD.out _ HB.out
      have hf := flat_len (f := Pl.encOp) (m := 5000) (ops.take k) (fun y hy => encOp_len (HOK.out y (List.mem_of_mem_take hy)))
      have ht : (ops.take k).length ≤ 256 := by rw [List.length_take]; omega
      have hrl : r.length ≤ 1500000 := by rw [HR.out, List.length_append]; have := hdl.out; omega
      clear hf ht
      by_cases hkn : k < n
      · have q1 : (k : Int) < (n : Int) := by omega
        have q3 : (0 : Int) ≤ (k : Int) := by omega
        obtain ⟨o, hc⟩ : ∃ c, ops[k]? = some c := ⟨_, List.getElem?_eq_getElem (by rw [HN.out]; exact hkn)⟩
        obtain ⟨c, hor, _, hcell⟩ := HRW.out.at_ hc
        have hok := HOK.out o (List.mem_of_getElem? hc)
        have hor2 := hor.only (Only.of_below HB.out (fun _ => False)) (fun _ _ h => h)
        obtain ⟨Ac, cc, Ar, cr, rfl, _⟩ := hor
        have hsr := HS.out.below HB.out
        obtain ⟨b, off, rfl, g0⟩ := hsr.at_ _ _ (hcell 0 (by omega))
        have g1 := hsr.cell _ _ (hcell 1 (by omega))
        have g2 := hsr.cell _ _ (hcell 2 (by omega))
        have g3 := hsr.cell _ _ (hcell 3 (by omega))
        rw [← Nat.add_assoc] at g1 g2 g3
        rw [Nat.add_zero] at g0
        have HT := Lib.hid (refOpText_any P _ o wr hor2 (fun b hb => by have := HP.out b hb; have := HSZ.out; have := HB.out.size; omega) hok)
        obtain ⟨r2, hr2⟩ : ∃ l, r ++ Pl.encOp o = l := ⟨_, rfl⟩
        have k1 : ∀ W, (Op.stringOp .add (tstr r) (tstr (Pl.encOp o))).run Tryz.prog W = .ok (.string (tstr r2)) W := fun W => by rw [← hr2]; exact run_cat W r (Pl.encOp o) (by have := encOp_len hok; omega)
        have HR2 : Hid (r2 = hd ++ (ops.take (k + 1)).flatMap Pl.encOp) := by rw [Hid, flat_succ _ hc, ← hr2, HR.out, List.append_assoc]
        clear hc hcell hok hsr hor2 hr2 hrl
        go_wp2_with fail
        refine HT.out.mono ?_
        rintro e w3 ⟨rfl, hb3⟩
        have B3 := Lib.hid (HB.out.trans (hb3.mono HB.out.size))
        clear hb3
        go_wp2_with fail
        exact ⟨⟨k + 1, _, by omega, by go_num, rfl, HR2.out, B3.out⟩, by simp [intOf]; omega⟩
      · obtain rfl : k = n := by omega
        have hbo : r = Pl.encBody ⟨time, ops⟩ := by
          rw [HR.out, List.take_of_length_le (by rw [HN.out]; exact Nat.le_refl _), ← HHD.out]
          unfold Pl.encBody
          rw [HN.out]
          simp
        have hz := tstr_size r
        have hck := refCheck_any (tstr r) wr (by rw [hz]; omega)
        rw [tstr_list] at hck
        obtain ⟨ck, hck'⟩ : ∃ c, 4294967295 - Pl.checkN r = c := ⟨_, rfl⟩
        rw [hck'] at hck
        have hcl : ck ≤ 4294967295 := by omega
        have k1 : ∀ W, (Op.stringOp .add (tstr r) (tstr (Pl.be 4 ck))).run Tryz.prog W = .ok (.string (tstr (r ++ Pl.be 4 ck))) W := fun W => run_cat W r (Pl.be 4 ck) (by rw [Pl.be_length]; omega)
        have HFIN : Hid (Pl.payload ⟨time, ops⟩ = r ++ Pl.be 4 ck) := by
          rw [Hid]
          unfold Pl.payload Pl.checkOf
          rw [← hbo, hck']
        have HCK := Lib.hid hck
        clear hck hck' hbo hrl
        go_wp2_with fail
        refine HCK.out.mono ?_
        rintro e w' ⟨rfl, rfl⟩
        go_wp2_with fail
        refine (refBytes_tx ck 4 _ (by omega) (by omega)).mono ?_
        rintro e w3 ⟨rfl, hb3⟩
        have B3 := Lib.hid (HBB.out.trans ((HB.out.trans (hb3.mono HB.out.size)).mono (by have := HSZ.out; omega)))
        clear hb3
        go_wp2_with fail
        go_ret
        exact ⟨by rw [HFIN.out]; rfl, B3.out⟩
end Go.Proofs.YtljmklohgpaopaaGreatDoor

namespace Go.Proofs.YtljmklohgpaopaaGreatDoor
open Go.RowKit

theorem Cur.only {F : Nat → Prop} {w w' : World} {g : Nat} {l : List UInt8} {bad : Bool} (h : Cur w g l bad) (ho : Only F w w') (hF : ¬ F g) : Cur w' g l bad := ⟨h.1, ho.blk h.2 hF⟩
theorem Cur.lt {w : World} {g : Nat} {l : List UInt8} {bad : Bool} (h : Cur w g l bad) : g < w.heap.size := h.2.lt
/-- What a reader leaves: what it read is x wherever the text begins with some right thing. -/
def Left {α : Type} (g : Nat) (l : List UInt8) (bad : Bool) (w : World) (ok : α → Prop) (enc : α → List UInt8) (x : α) (w' : World) : Prop :=
  ∃ l' bad', Cur w' g l' bad' ∧ Only (· = g) w w' ∧ ∀ y r, ok y → l = enc y ++ r → x = y ∧ l' = r ∧ bad' = bad
def TakeP (g n : Nat) (l : List UInt8) (bad : Bool) (w : World) (e : Ending) (w' : World) : Prop :=
  ∃ s, e = .returned (.string (tstr s)) ∧ s.length = n ∧ Left g l bad w (fun a => a.length = n) (fun a => a) s w'
theorem takeR_any (g n : Nat) (l : List UInt8) (bad : Bool) (w : World) (h : Cur w g l bad) (hn : n ≤ 281474976710656) :
    Calls Tryz.prog 115 #[.pointer (some ⟨g, 0, none⟩), .int .i64 n] w (TakeP g n l bad w) := by
  by_cases hl : n ≤ l.length
  · refine (curTake_enough g n l bad w h hl).mono ?_
    rintro e w' ⟨rfl, hc, hg⟩
    refine ⟨_, rfl, by rw [List.length_take]; omega, _, _, hc, Only.of_grown hg, ?_⟩
    rintro a r rfl rfl
    exact ⟨List.take_left, List.drop_left, rfl⟩
  · refine (curTake_short g n l bad w h (by omega) hn).mono ?_
    rintro e w' ⟨rfl, hc, hg⟩
    refine ⟨_, rfl, List.length_replicate, _, _, hc, Only.of_grown hg, ?_⟩
    rintro a r rfl rfl
    simp at hl
def NumP (g n : Nat) (l : List UInt8) (bad : Bool) (w : World) (e : Ending) (w' : World) : Prop :=
  ∃ v, e = .returned (.int .i64 (sig v)) ∧ v < 256 ^ n ∧ Left g l bad w (fun v => v < 256 ^ n) (fun v => Pl.be n v) v w'
theorem wrap_sig' {n : Nat} (h : n < 18446744073709551616) : IntKind.i64.wrap ((n : Nat) : Int) = sig n := by
  rw [IntKind.wrap_i64]
  unfold sig
  split <;> omega
theorem numR_any (g n : Nat) (ni : Int) (hni : ni = n) (l : List UInt8) (bad : Bool) (w : World) (h : Cur w g l bad) (hn : n ≤ 8) :
    Calls Tryz.prog 69 #[.pointer (some ⟨g, 0, none⟩), .int .i64 ni] w (NumP g n l bad w) := by
  subst hni
  have HT := Lib.hid (takeR_any g n l bad w h (by omega))
  clear h
  go_enter Tryz.func69, Tryz.ntmps69
  go_wp2_with fail
  refine HT.out.mono ?_
  rintro e w1 ⟨s, rfl, hs, hL⟩
  have HL := Lib.hid hL
  have hvl := Pl.num_lt s
  have hv8 : Pl.num s < 18446744073709551616 := Nat.lt_of_lt_of_le hvl (by rw [hs]; exact Nat.pow_le_pow_right (n := 256) (j := 8) (by decide) hn)
  obtain ⟨v, hv⟩ : ∃ v, Pl.num s = v := ⟨_, rfl⟩
  have HV := Lib.hid hv
  have HN := Lib.hid (number_any (tstr s) w1 (by rw [tstr_size]; omega))
  rw [show (tstr s).data.toList = s from by simp [tstr], hv] at HN
  rw [hv] at hv8 hvl
  have hw := wrap_sig' hv8
  have HVL := Lib.hid hvl
  have HS := Lib.hid hs
  clear hL hvl hs hv
  go_wp2_with fail
  refine HN.out.mono ?_
  rintro e w2 ⟨rfl, rfl⟩
  go_wp2_with fail
  go_ret
  obtain ⟨l', bad', h1, h2, h3⟩ := HL.out
  refine ⟨v, rfl, by rw [← HS.out]; exact HVL.out, l', bad', h1, h2, fun y r hy hr => ?_⟩
  obtain ⟨h4, h5, h6⟩ := h3 (Pl.be n y) r (Pl.be_length _ _) hr
  refine ⟨?_, h5, h6⟩
  rw [← HV.out, h4, Pl.num_be n y hy]
def ShortP (g : Nat) (l : List UInt8) (bad : Bool) (w : World) (e : Ending) (w' : World) : Prop :=
  ∃ s, e = .returned (.string (tstr s)) ∧ s.length < 256 ∧ Left g l bad w (fun a => a.length < 256) Pl.short s w'
theorem sig_small {n : Nat} (h : n < 256) : sig n = n := by
  unfold sig
  rw [if_pos (by omega)]
theorem be_one (v : Nat) : Pl.be 1 v = [UInt8.ofNat v] := by
  simp [Pl.be]
theorem shortR_any (g : Nat) (l : List UInt8) (bad : Bool) (w : World) (h : Cur w g l bad) :
    Calls Tryz.prog 116 #[.pointer (some ⟨g, 0, none⟩)] w (ShortP g l bad w) := by
  have HT := Lib.hid (numR_any g 1 1 rfl l bad w h (by omega))
  clear h
  go_enter Tryz.func116, Tryz.ntmps116
  go_wp2_with fail
  refine HT.out.mono ?_
  rintro e w1 ⟨v, rfl, hv, l1, bad1, hc1, ho1, h1⟩
  have hv' : v < 256 := by simpa using hv
  rw [sig_small hv']
  have HK := Lib.hid (takeR_any g v l1 bad1 w1 hc1 (by omega))
  have HO := Lib.hid ho1
  have H1 := Lib.hid h1
  clear hc1 ho1 h1 hv
  go_wp2_with fail
  refine HK.out.mono ?_
  rintro e w2 ⟨s, rfl, hs, l2, bad2, hc2, ho2, h2⟩
  have HC2 := Lib.hid hc2
  have HO2 := Lib.hid ho2
  have H2 := Lib.hid h2
  have HS := Lib.hid hs
  clear hc2 ho2 h2 hs
  go_wp2_with fail
  go_ret
  refine ⟨s, rfl, by rw [HS.out]; exact hv', l2, bad2, HC2.out, HO.out.trans' HO2.out, fun y r hy hr => ?_⟩
  obtain ⟨h4, h5, h6⟩ := H1.out y.length (y ++ r) (by simpa using hy) (by rw [hr, be_one]; rfl)
  obtain ⟨h7, h8, h9⟩ := H2.out y r h4.symm h5
  exact ⟨h7, h8, h9.trans h6⟩
end Go.Proofs.YtljmklohgpaopaaGreatDoor

namespace Go.Proofs.YtljmklohgpaopaaGreatDoor
open Go.RowKit

def ValP (g : Nat) (l : List UInt8) (bad : Bool) (w : World) (e : Ending) (w' : World) : Prop :=
  ∃ x : Pl.Vl, e = .returned (vlV x) ∧ VlB x ∧ Left g l bad w Pl.VlOk Pl.encV x w'
theorem encV_parts {y : Pl.Vl} (h : Pl.VlOk y) : Pl.encV y = Pl.be 1 y.ty ++ (if y.ty = 1 then Pl.be 8 y.n else Pl.short y.s) ∧ y.ty < 256 := by
  refine ⟨by rw [be_one]; rfl, ?_⟩
  rcases h with ⟨h, _⟩ | ⟨h, _⟩ <;> omega

set_option maxHeartbeats 1000000 in
theorem valR_any (g : Nat) (l : List UInt8) (bad : Bool) (w : World) (h : Cur w g l bad) :
    Calls Tryz.prog 117 #[.pointer (some ⟨g, 0, none⟩)] w (ValP g l bad w) := by
  have hgl : g < w.heap.size := h.lt
  obtain ⟨b2, hb2⟩ : ∃ b2, w.heap.size = b2 := ⟨_, rfl⟩
  obtain ⟨w0, hw0⟩ : ∃ w0, w.alloc (.cells #[.int .i64 0, .int .i64 0, .string ⟨#[]⟩] 122) = w0 := ⟨_, rfl⟩
  have hb0 : Below w.heap.size w w0 := by rw [← hw0]; exact below_alloc _ _
  have B0 : Blk w0 b2 122 [.int .i64 0, .int .i64 0, .string ⟨#[]⟩] := by rw [← hw0, ← hb2]; exact Blk.new w 122 _
  have HNUM := Lib.hid (numR_any g 1 1 rfl l bad w0 (h.below hb0) (by omega))
  have HB0 := Lib.hid B0
  have HO0 := Lib.hid (Only.of_below hb0 (· = g))
  have hgb : g ≠ b2 := by omega
  clear hb0 B0 h
  go_enter Tryz.func117, Tryz.ntmps117
  go_wp2_with fail
  refine HNUM.out.mono ?_
  rintro e w1 ⟨ty, rfl, hty, l1, bad1, hc1, ho1, h1⟩
  have hty : ty < 256 := by simpa using hty
  rw [sig_small hty]
  have HO1 := Lib.hid (HO0.out.trans' ho1)
  have HB1 := Lib.hid (ho1.blk HB0.out (Ne.symm hgb))
  have H1 := Lib.hid h1
  obtain ⟨b3, hb3⟩ : ∃ b3, w1.heap.size = b3 := ⟨_, rfl⟩
  obtain ⟨wz, hwz⟩ : ∃ wz, w1.alloc (.cells #[.int .i64 0, .int .i64 0, .string ⟨#[]⟩] 122) = wz := ⟨_, rfl⟩
  have hbz : Below w1.heap.size w1 wz := by rw [← hwz]; exact below_alloc _ _
  have BZ : Blk wz b3 122 [.int .i64 0, .int .i64 0, .string ⟨#[]⟩] := by rw [← hwz, ← hb3]; exact Blk.new w1 122 _
  obtain ⟨z0, z1, z2, e0, e1, e2⟩ := facts3 BZ
  obtain ⟨w1a, hw1a⟩ : ∃ w1a, ((wz.setCell ⟨b3, 0, none⟩ (.int .i64 (ty : Int))).setCell ⟨b3, 1, none⟩ (.int .i64 0)).setCell ⟨b3, 2, none⟩ (.string ⟨#[]⟩) = w1a := ⟨_, rfl⟩
  have hb1a : Below w1.heap.size w1 w1a := by
    rw [← hw1a]
    have h1 : w1.heap.size ≤ b3 := by omega
    exact ((hbz.setCell (p := ⟨b3, 0, none⟩) h1 _).setCell (p := ⟨b3, 1, none⟩) h1 _).setCell (p := ⟨b3, 2, none⟩) h1 _
  have BV : Blk w1a b3 122 [.int .i64 (ty : Int), .int .i64 0, .string ⟨#[]⟩] := by rw [← hw1a]; exact BZ.set3 _ _ _
  have HC1a := Lib.hid (hc1.below hb1a)
  have HB1a := Lib.hid (HB1.out.below hb1a HB1.out.lt)
  have HO1a := Lib.hid (HO1.out.below hb1a)
  have HBV := Lib.hid BV
  obtain ⟨c0, c1, c2, f0, f1, f2⟩ := facts3 BV
  have hs1 : w.heap.size ≤ w1.heap.size := HO1.out.size
  have hg3 : g ≠ b3 := by omega
  have h23 : b2 ≠ b3 := by
    have := HB1.out.lt
    omega
  clear hc1 ho1 h1 hb1a BV hbz BZ
  have fin : ∀ (x : Pl.Vl) (w2 : World), VlB x → Left g l1 bad1 w1a (fun y : Pl.Vl => Pl.VlOk y ∧ y.ty = ty) (fun y => if y.ty = 1 then Pl.be 8 y.n else Pl.short y.s) x w2 → x.ty = ty →
      ∀ w3, Only (fun k => k = b2 ∨ k = b3) w2 w3 → Left g l bad w Pl.VlOk Pl.encV x w3 := by
    rintro x w2 hx ⟨l2, bad2, hc2, ho2, h2⟩ hxt w3 ho3
    have hs2 := ho2.size
    refine ⟨l2, bad2, hc2.only ho3 (by rintro (e | e); exact hgb e; exact hg3 e), (HO1a.out.trans' ho2).trans ho3 (by rintro k hk (e | e) <;> omega), fun y r hy hr => ?_⟩
    obtain ⟨hp, hlt⟩ := encV_parts hy
    rw [hp, List.append_assoc] at hr
    obtain ⟨e1, e2, e3⟩ := H1.out y.ty _ (by simpa using hlt) hr
    obtain ⟨e4, e5, e6⟩ := h2 y r ⟨hy, e1.symm⟩ e2
    exact ⟨e4, e5, e6.trans e3⟩
  have FIN := Lib.hid fin
  clear fin
  by_cases ht : ty = 1
  · have q1 : (((ty : Nat) : Int) == 1) = true := by rw [ht]; rfl
    have HN8 := Lib.hid (numR_any g 8 8 rfl l1 _ w1a HC1a.out (by omega))
    have HT := Lib.hid ht
    clear ht
    go_wp2_with fail
    refine HN8.out.mono ?_
    rintro e w2 ⟨n8, rfl, hn8, hL⟩
    have HL := Lib.hid hL
    have HN := Lib.hid hn8
    obtain ⟨l2, bad2, hc2, ho2, h2⟩ := hL
    have hv2 := ho2.blk HBV.out (Ne.symm hg3)
    have hB2 := ho2.blk HB1a.out (Ne.symm hgb)
    have HB2 := Lib.hid hB2
    have HV2 := Lib.hid hv2
    clear c0 c1 c2 f0 f1 f2 hn8 hc2 ho2 h2
    obtain ⟨c0, c1, c2, f0, f1, f2⟩ := facts3 hv2
    obtain ⟨w3, hw3⟩ : ∃ w3, w2.setCell ⟨b3, 1, none⟩ (.int .i64 (sig n8)) = w3 := ⟨_, rfl⟩
    have hv3 : Blk w3 b3 122 [.int .i64 (ty : Int), .int .i64 (sig n8), .string ⟨#[]⟩] := by rw [← hw3]; exact hv2.set_ 1 _
    have ho3 : Only (· = b3) w2 w3 := by rw [← hw3]; exact (Only.refl (· = b3) w2).setCell (p := ⟨b3, 1, none⟩) (.inl rfl) _
    have hB3 := ho3.blk hB2 h23
    obtain ⟨d0, d1, d2, k0, k1, k2⟩ := facts3 hv3
    obtain ⟨m0, m1, m2, n0, n1, n2⟩ := facts3 hB3
    obtain ⟨w6, hw6⟩ : ∃ w6, ((w3.setCell ⟨b2, 0, none⟩ (.int .i64 (ty : Int))).setCell ⟨b2, 1, none⟩ (.int .i64 (sig n8))).setCell ⟨b2, 2, none⟩ (.string ⟨#[]⟩) = w6 := ⟨_, rfl⟩
    have HB6 := Lib.hid (show Blk w6 b2 122 [.int .i64 (ty : Int), .int .i64 (sig n8), .string ⟨#[]⟩] by rw [← hw6]; exact hB3.set3 _ _ _)
    have ho6 : Only (fun k => k = b2 ∨ k = b3) w2 w6 := by
      rw [← hw6]
      exact (((ho3.mono (fun _ _ e => .inr e)).setCell (p := ⟨b2, 0, none⟩) (.inl (.inl rfl)) _).setCell (p := ⟨b2, 1, none⟩) (.inl (.inl rfl)) _).setCell (p := ⟨b2, 2, none⟩) (.inl (.inl rfl)) _
    have HO6 := Lib.hid ho6
    clear hv2 hB2 hv3 ho3 hB3 ho6
    go_wp2_with fail
    have hn8' : n8 < 18446744073709551616 := by have := HN.out; simpa using this
    refine bodyPost_ret (v := vlV ⟨ty, n8, []⟩) (results_value rfl rfl HB6.out) rfl ⟨_, rfl, ⟨hty, hn8', Nat.zero_le _⟩, ?_⟩
    obtain ⟨l2, bad2, hc2, ho2, h2⟩ := HL.out
    refine FIN.out ⟨ty, n8, []⟩ w2 ⟨hty, hn8', Nat.zero_le _⟩ ⟨l2, bad2, hc2, ho2, ?_⟩ rfl w6 HO6.out
    rintro ⟨yt, yn, ys⟩ r ⟨hy, hyt⟩ hr
    dsimp only at hyt hr
    rw [HT.out] at hyt
    rw [if_pos hyt] at hr
    rcases hy with ⟨e1, e2, e3⟩ | ⟨e1, _⟩
    · dsimp only at e1 e2 e3
      obtain ⟨e4, e5, e6⟩ := h2 yn r e3 hr
      subst e2 e4
      exact ⟨by rw [HT.out, e1], e5, e6⟩
    · dsimp only at e1
      omega
  · have q1 : (((ty : Nat) : Int) == 1) = false := by simp; omega
    have HN8 := Lib.hid (shortR_any g l1 _ w1a HC1a.out)
    have HT := Lib.hid ht
    clear ht
    go_wp2_with fail
    refine HN8.out.mono ?_
    rintro e w2 ⟨s, rfl, hs, hL⟩
    have HL := Lib.hid hL
    have HN := Lib.hid hs
    obtain ⟨l2, bad2, hc2, ho2, h2⟩ := hL
    have hv2 := ho2.blk HBV.out (Ne.symm hg3)
    have hB2 := ho2.blk HB1a.out (Ne.symm hgb)
    have HB2 := Lib.hid hB2
    have HV2 := Lib.hid hv2
    clear c0 c1 c2 f0 f1 f2 hs hc2 ho2 h2
    obtain ⟨c0, c1, c2, f0, f1, f2⟩ := facts3 hv2
    obtain ⟨w3, hw3⟩ : ∃ w3, w2.setCell ⟨b3, 2, none⟩ (.string (tstr s)) = w3 := ⟨_, rfl⟩
    have hv3 : Blk w3 b3 122 [.int .i64 (ty : Int), .int .i64 0, .string (tstr s)] := by rw [← hw3]; exact hv2.set_ 2 _
    have ho3 : Only (· = b3) w2 w3 := by rw [← hw3]; exact (Only.refl (· = b3) w2).setCell (p := ⟨b3, 2, none⟩) (.inl rfl) _
    have hB3 := ho3.blk hB2 h23
    obtain ⟨d0, d1, d2, k0, k1, k2⟩ := facts3 hv3
    obtain ⟨m0, m1, m2, n0, n1, n2⟩ := facts3 hB3
    obtain ⟨w6, hw6⟩ : ∃ w6, ((w3.setCell ⟨b2, 0, none⟩ (.int .i64 (ty : Int))).setCell ⟨b2, 1, none⟩ (.int .i64 0)).setCell ⟨b2, 2, none⟩ (.string (tstr s)) = w6 := ⟨_, rfl⟩
    have HB6 := Lib.hid (show Blk w6 b2 122 [.int .i64 (ty : Int), .int .i64 0, .string (tstr s)] by rw [← hw6]; exact hB3.set3 _ _ _)
    have ho6 : Only (fun k => k = b2 ∨ k = b3) w2 w6 := by
      rw [← hw6]
      exact (((ho3.mono (fun _ _ e => .inr e)).setCell (p := ⟨b2, 0, none⟩) (.inl (.inl rfl)) _).setCell (p := ⟨b2, 1, none⟩) (.inl (.inl rfl)) _).setCell (p := ⟨b2, 2, none⟩) (.inl (.inl rfl)) _
    have HO6 := Lib.hid ho6
    clear hv2 hB2 hv3 ho3 hB3 ho6
    go_wp2_with fail
    have hsl := HN.out
    have hvb : VlB ⟨ty, 0, s⟩ := ⟨hty, by dsimp only; omega, by dsimp only; omega⟩
    refine bodyPost_ret (v := vlV ⟨ty, 0, s⟩) (results_value rfl rfl HB6.out) rfl ⟨_, rfl, hvb, ?_⟩
    obtain ⟨l2, bad2, hc2, ho2, h2⟩ := HL.out
    refine FIN.out ⟨ty, 0, s⟩ w2 hvb ⟨l2, bad2, hc2, ho2, ?_⟩ rfl w6 HO6.out
    rintro ⟨yt, yn, ys⟩ r ⟨hy, hyt⟩ hr
    dsimp only at hyt hr
    rw [hyt, if_neg HT.out] at hr
    rcases hy with ⟨e1, _⟩ | ⟨e1, e2, e3⟩
    · dsimp only at e1
      exact absurd (hyt.symm.trans e1) HT.out
    · dsimp only at e1 e2 e3
      obtain ⟨e4, e5, e6⟩ := h2 ys r (by dsimp only; omega) hr
      subst e2 e4 hyt
      exact ⟨rfl, e5, e6⟩
end Go.Proofs.YtljmklohgpaopaaGreatDoor

namespace Go.Proofs.YtljmklohgpaopaaGreatDoor
open Go.RowKit

theorem rows_flat {α : Type} {s : Nat} (f : α → List Value) (ok : α → Prop) (hf : ∀ x, (f x).length = s) : ∀ {xs : List α} {cs : List Value}, RowsR s (fun c x => c = f x ∧ ok x) cs xs → cs = xs.flatMap f ∧ ∀ x ∈ xs, ok x
  | [], cs, h => ⟨List.eq_nil_of_length_eq_zero (by rw [h.1]; simp), by intro x hx; cases hx⟩
  | x :: r, cs, h => by
    obtain ⟨h0, h1⟩ := h.2 0 x rfl
    rw [Nat.mul_zero, List.drop_zero] at h0
    have ht : RowsR s (fun c x => c = f x ∧ ok x) (cs.drop s) r := by
      refine ⟨by rw [List.length_drop, h.1, List.length_cons, Nat.mul_add, Nat.mul_one, Nat.add_sub_cancel], fun k y hk => ?_⟩
      have := h.2 (k + 1) y (by simpa using hk)
      rw [Nat.mul_add, Nat.mul_one, Nat.add_comm (s * k)] at this
      rw [List.drop_drop]
      exact this
    have hr := rows_flat f ok hf ht
    refine ⟨?_, ?_⟩
    · rw [List.flatMap_cons, ← hr.1, ← h0, List.take_append_drop]
    · intro y hy
      rcases List.mem_cons.1 hy with rfl | hy
      · exact h1
      · exact hr.2 y hy
def ClR (_ : World) (_ : Nat → Prop) (c : List Value) (x : Pl.Cl) : Prop := c = clc x ∧ ClB x
theorem ClR.fr : Fr ClR := fun _ _ _ _ _ _ _ h _ _ _ => h
def VlR (_ : World) (_ : Nat → Prop) (c : List Value) (x : Pl.Vl) : Prop := c = vc x ∧ VlB x
theorem VlR.fr : Fr VlR := fun _ _ _ _ _ _ _ h _ _ _ => h
abbrev CLL := OL 224 2 ClR
abbrev VLL := OL 122 3 VlR
theorem CLL.own {w : World} {base : Nat} {v : Value} {xs : List Pl.Cl} (h : CLL w base v xs) : w.ownsRow base 224 2 v xs.length (clcs xs) ∧ ∀ x ∈ xs, ClB x := by
  obtain ⟨cs, h1, h2⟩ := h
  obtain ⟨rfl, h3⟩ := rows_flat clc ClB (fun _ => rfl) h2
  exact ⟨h1, h3⟩
theorem VLL.own {w : World} {base : Nat} {v : Value} {xs : List Pl.Vl} (h : VLL w base v xs) : w.ownsRow base 122 3 v xs.length (vcs xs) ∧ ∀ x ∈ xs, VlB x := by
  obtain ⟨cs, h1, h2⟩ := h
  obtain ⟨rfl, h3⟩ := rows_flat vc VlB (fun _ => rfl) h2
  exact ⟨h1, h3⟩
/-- Some things have been read, and what is left. -/
def MAt {α : Type} (ok : α → Prop) (enc : α → List UInt8) (n : Nat) (l0 : List UInt8) (bad0 : Bool) (xs : List α) (l : List UInt8) (bad : Bool) : Prop :=
  ∀ (ys : List α) (r : List UInt8), bad0 = false → ys.length = n → (∀ y ∈ ys, ok y) → l0 = ys.flatMap enc ++ r → xs = ys.take xs.length ∧ l = (ys.drop xs.length).flatMap enc ++ r ∧ bad = false
theorem MAt.start {α : Type} (ok : α → Prop) (enc : α → List UInt8) (n : Nat) (l0 : List UInt8) (bad0 : Bool) : MAt ok enc n l0 bad0 [] l0 bad0 := fun ys r h1 h2 h3 h4 => ⟨rfl, h4, h1⟩
theorem MAt.step {α : Type} {ok : α → Prop} {enc : α → List UInt8} {n : Nat} {l0 l l' : List UInt8} {bad0 bad bad' : Bool} {xs : List α} {x : α} (h : MAt ok enc n l0 bad0 xs l bad) (hl : xs.length < n)
    (hx : ∀ y r, ok y → l = enc y ++ r → x = y ∧ l' = r ∧ bad' = bad) : MAt ok enc n l0 bad0 (xs ++ [x]) l' bad' := by
  intro ys r h1 h2 h3 h4
  obtain ⟨e1, e2, e3⟩ := h ys r h1 h2 h3 h4
  have hlt : xs.length < ys.length := by omega
  rw [List.drop_eq_getElem_cons hlt, List.flatMap_cons, List.append_assoc] at e2
  obtain ⟨f1, f2, f3⟩ := hx _ _ (h3 _ (List.getElem_mem hlt)) e2
  refine ⟨?_, ?_, f3.trans e3⟩
  · rw [List.length_append, List.length_singleton, List.take_add_one, List.getElem?_eq_getElem hlt, ← e1, f1]; rfl
  · rw [List.length_append, List.length_singleton]; exact f2
theorem MAt.done {α : Type} {ok : α → Prop} {enc : α → List UInt8} {n : Nat} {l0 l : List UInt8} {bad0 bad : Bool} {xs : List α} (h : MAt ok enc n l0 bad0 xs l bad) (hl : xs.length = n ∨ bad = true) :
    ∀ (ys : List α) (r : List UInt8), bad0 = false → ys.length = n → (∀ y ∈ ys, ok y) → l0 = ys.flatMap enc ++ r → xs = ys ∧ l = r ∧ bad = false := by
  intro ys r h1 h2 h3 h4
  obtain ⟨e1, e2, e3⟩ := h ys r h1 h2 h3 h4
  rcases hl with hl | hl
  · rw [hl, ← h2, List.take_length] at e1
    rw [hl, ← h2, List.drop_length] at e2
    exact ⟨e1, e2, e3⟩
  · rw [hl] at e3; cases e3
/-- The two blocks of an op under way. -/
structure OAt (w : World) (g b2 b3 : Nat) (K : Nat) (nm : List UInt8) (va vb : Value) (W : World) : Prop where
  low : w.heap.size ≤ b2 ∧ b2 < b3 ∧ g < w.heap.size
  r2 : Blk W b2 151 [.int .i64 0, .string ⟨#[]⟩, .slice none 0 0, .slice none 0 0]
  r3 : Blk W b3 151 [.int .i64 (K : Nat), .string (tstr nm), va, vb]
  only : Only (· = g) w W
section
variable {w W W' : World} {g b2 b3 K : Nat} {nm : List UInt8} {va vb : Value}
theorem OAt.read (h : OAt w g b2 b3 K nm va vb W) (ho : Only (· = g) W W') : OAt w g b2 b3 K nm va vb W' :=
  ⟨h.low, ho.blk h.r2 (by have := h.low; omega), ho.blk h.r3 (by have := h.low; omega), h.only.trans' ho⟩
theorem OAt.below (h : OAt w g b2 b3 K nm va vb W) (hb : Below W.heap.size W W') : OAt w g b2 b3 K nm va vb W' :=
  ⟨h.low, h.r2.below hb h.r2.lt, h.r3.below hb h.r3.lt, h.only.below hb⟩
theorem OAt.moves (h : OAt w g b2 b3 K nm va vb W) {v v' : Value} (hm : Mv W W' v v') (hv : ∀ k, v.ownBlock = some k → b3 < k) : OAt w g b2 b3 K nm va vb W' := by
  have ho := hm.only
  refine ⟨h.low, ho.blk h.r2 (fun e => ?_), ho.blk h.r3 (fun e => ?_), h.only.trans ho (fun k hk e => ?_)⟩
  · have := hv _ e; have := h.low; omega
  · have := hv _ e; have := h.low; omega
  · have := hv _ e; have := h.low; omega
theorem OAt.set2 (h : OAt w g b2 b3 K nm va vb W) (v : Value) : OAt w g b2 b3 K nm v vb (W.setCell ⟨b3, 2, none⟩ v) :=
  ⟨h.low, h.r2.far (p := ⟨b3, 2, none⟩) (by have := h.low; dsimp only; omega) v, h.r3.set_ 2 v, h.only.setCell (p := ⟨b3, 2, none⟩) (.inr (by have := h.low; dsimp only; omega)) v⟩
theorem OAt.set3 (h : OAt w g b2 b3 K nm va vb W) (v : Value) : OAt w g b2 b3 K nm va v (W.setCell ⟨b3, 3, none⟩ v) :=
  ⟨h.low, h.r2.far (p := ⟨b3, 3, none⟩) (by have := h.low; dsimp only; omega) v, h.r3.set_ 3 v, h.only.setCell (p := ⟨b3, 3, none⟩) (.inr (by have := h.low; dsimp only; omega)) v⟩
end
def opT (o : Pl.Opn) : List UInt8 := if o.kind = 1 then Pl.encCols o.cols else if o.kind = 4 then o.row.flatMap Pl.encV else Pl.encRow o.row
def Shape (o : Pl.Opn) : Prop := (o.kind = 1 → o.row = []) ∧ (o.kind ≠ 1 → o.cols = []) ∧ (o.kind = 4 → ∃ v, o.row = [v])
/-- An op is read, and lies in its block. -/
def FinAt (w : World) (g b2 b3 : Nat) (K : Nat) (nm l2 : List UInt8) (bad2 : Bool) (W : World) : Prop :=
  ∃ va vb cols row l3 bad3, OAt w g b2 b3 K nm va vb W ∧ CLL W (b3 + 1) va cols ∧ VLL W (b3 + 1) vb row ∧ (cols.length < 256 ∧ row.length < 256) ∧ Shape ⟨K, nm, cols, row⟩ ∧ Cur W g l3 bad3 ∧
    ∀ (o : Pl.Opn) (r : List UInt8), bad2 = false → Pl.OpOk o → o.kind = K → l2 = opT o ++ r → cols = o.cols ∧ row = o.row ∧ l3 = r ∧ bad3 = false
def OpP (g : Nat) (l : List UInt8) (bad : Bool) (w : World) (e : Ending) (w' : World) : Prop :=
  ∃ v o, e = .returned v ∧ OpV w' w.heap.size v o ∧ OpB o ∧ Shape o ∧ Left g l bad w (fun o => bad = false ∧ Pl.OpOk o) Pl.encOp o w'
def okC (c : Pl.Cl) : Prop := c.name.length < 256 ∧ c.ty < 256 ^ 1
theorem okC.of {c : Pl.Cl} (h : Pl.ClOk c) : okC c := by
  obtain ⟨⟨h1, _⟩, h2⟩ := h
  refine ⟨by omega, ?_⟩
  rcases h2 with h2 | h2 <;> rw [h2] <;> decide
theorem col_left {l l5 l6 s : List UInt8} {ty : Nat} {b0 b5 b6 : Bool} (h5 : ∀ y r, y.length < 256 → l = Pl.short y ++ r → s = y ∧ l5 = r ∧ b5 = b0) (h6 : ∀ y r, y < 256 ^ 1 → l5 = Pl.be 1 y ++ r → ty = y ∧ l6 = r ∧ b6 = b5) :
    ∀ (y : Pl.Cl) (r : List UInt8), okC y → l = Pl.encC y ++ r → (⟨s, ty⟩ : Pl.Cl) = y ∧ l6 = r ∧ b6 = b0 := by
  rintro ⟨nm, t⟩ r ⟨hy1, hy2⟩ hl
  unfold Pl.encC at hl
  rw [List.append_assoc] at hl
  obtain ⟨rfl, e2, e3⟩ := h5 nm _ hy1 hl
  obtain ⟨rfl, e5, e6⟩ := h6 t r hy2 (by rw [be_one]; exact e2)
  exact ⟨rfl, e5, e6.trans e3⟩
section
variable {w W : World} {g b2 b3 K n : Nat} {nm l2 l3 lk : List UInt8} {bad2 bad3 bk : Bool} {va : Value}
theorem FinAt.cols {cs : List Pl.Cl} (hK : K = 1) (hA : OAt w g b2 b3 K nm va (.slice none 0 0) W) (hCL : CLL W (b3 + 1) va cs) (hl : cs.length ≤ n ∧ n < 256) (hC : Cur W g lk bk) (hd : cs.length = n ∨ bk = true) (hM : MAt okC Pl.encC n l3 bad3 cs lk bk)
    (h4 : ∀ y r, y < 256 ^ 1 → l2 = Pl.be 1 y ++ r → n = y ∧ l3 = r ∧ bad3 = bad2) : FinAt w g b2 b3 K nm l2 bad2 W := by
  refine ⟨va, _, cs, [], lk, bk, hA, hCL, OL.nil _ _, ⟨by omega, by decide⟩, ⟨fun _ => rfl, fun e => absurd hK e, fun e => by dsimp only at e; omega⟩, hC, fun o r hb ho hk hr => ?_⟩
  obtain ⟨_, _, hcl, _, _, _, _⟩ := OpOk.b ho
  rcases ho.2 with ⟨_, ho2, ho3⟩ | ⟨e, _⟩ | ⟨e, _⟩
  · unfold opT Pl.encCols at hr
    rw [if_pos (by omega)] at hr
    obtain ⟨e1, e2, e3⟩ := h4 o.cols.length (o.cols.flatMap Pl.encC ++ r) (by omega) (by rw [hr, be_one]; rfl)
    obtain ⟨f1, f2, f3⟩ := hM.done hd o.cols r (e3.trans hb) e1.symm (fun y hy => okC.of (ho2.2.1 y hy)) e2
    exact ⟨f1, ho3.symm, f2, f3⟩
  · omega
  · omega
theorem FinAt.rows {xs : List Pl.Vl} (hK : K = 2 ∨ K = 3) (hA : OAt w g b2 b3 K nm (.slice none 0 0) va W) (hCL : VLL W (b3 + 1) va xs) (hl : xs.length ≤ n ∧ n < 256) (hC : Cur W g lk bk) (hd : xs.length = n ∨ bk = true) (hM : MAt Pl.VlOk Pl.encV n l3 bad3 xs lk bk)
    (h4 : ∀ y r, y < 256 ^ 1 → l2 = Pl.be 1 y ++ r → n = y ∧ l3 = r ∧ bad3 = bad2) : FinAt w g b2 b3 K nm l2 bad2 W := by
  refine ⟨_, va, [], xs, lk, bk, hA, OL.nil _ _, hCL, ⟨by decide, by omega⟩, ⟨fun e => by dsimp only at e; omega, fun _ => rfl, fun e => by dsimp only at e; omega⟩, hC, fun o r hb ho hk hr => ?_⟩
  obtain ⟨_, _, _, hrl, _, _, _⟩ := OpOk.b ho
  rcases ho.2 with ⟨e, _⟩ | ⟨_, ho2, ho3⟩ | ⟨e, _⟩
  · omega
  · unfold opT Pl.encRow at hr
    rw [if_neg (by omega), if_neg (by omega)] at hr
    obtain ⟨e1, e2, e3⟩ := h4 o.row.length (o.row.flatMap Pl.encV ++ r) (by omega) (by rw [hr, be_one]; rfl)
    obtain ⟨f1, f2, f3⟩ := hM.done hd o.row r (e3.trans hb) e1.symm (fun y hy => ho3.2 y hy) e2
    exact ⟨ho2.symm, f1, f2, f3⟩
  · omega
theorem FinAt.one {x : Pl.Vl} (hK : K = 4) (hA : OAt w g b2 b3 K nm (.slice none 0 0) va W) (hCL : VLL W (b3 + 1) va [x]) (hC : Cur W g lk bk)
    (h4 : ∀ (y : Pl.Vl) (r : List UInt8), Pl.VlOk y → l2 = Pl.encV y ++ r → x = y ∧ lk = r ∧ bk = bad2) : FinAt w g b2 b3 K nm l2 bad2 W := by
  refine ⟨_, va, [], [x], lk, bk, hA, OL.nil _ _, hCL, ⟨by decide, by simp⟩, ⟨fun e => by dsimp only at e; omega, fun _ => rfl, fun _ => ⟨x, rfl⟩⟩, hC, fun o r hb ho hk hr => ?_⟩
  rcases ho.2 with ⟨e, _⟩ | ⟨e, _⟩ | ⟨_, ho2, v, hv, ho3⟩
  · omega
  · omega
  · unfold opT at hr
    rw [if_neg (by omega), if_pos (by omega), hv] at hr
    obtain ⟨f1, f2, f3⟩ := h4 v r ho3 (by rw [hr]; simp)
    exact ⟨ho2.symm, by rw [hv, f1], f2, f3.trans hb⟩
theorem FinAt.none (h1 : K ≠ 1) (h2 : K ≠ 2) (h3 : K ≠ 3) (h4 : K ≠ 4) (hA : OAt w g b2 b3 K nm (.slice none 0 0) (.slice none 0 0) W) (hC : Cur W g l2 bad2) : FinAt w g b2 b3 K nm l2 bad2 W := by
  refine ⟨_, _, [], [], l2, bad2, hA, OL.nil _ _, OL.nil _ _, ⟨by decide, by decide⟩, ⟨fun e => absurd e h1, fun _ => rfl, fun e => absurd e h4⟩, hC, fun o r hb ho hk hr => ?_⟩
  rcases ho.2 with ⟨e, _⟩ | ⟨e, _⟩ | ⟨e, _⟩ <;> omega
end
theorem VLL.lit (w : World) (x : Pl.Vl) (base : Nat) (hb : base ≤ w.heap.size) (hx : VlB x) :
    VLL (w.alloc (.cells #[.int .i64 (x.ty : Nat), .int .i64 (sig x.n), .string (tstr x.s)] 122)) base (.slice (some ⟨w.heap.size, 0, none⟩) 1 1) [x] := by
  refine ⟨vc x, ⟨rfl, .inr ⟨w.heap.size, 1, #[.int .i64 (x.ty : Nat), .int .i64 (sig x.n), .string (tstr x.s)], rfl, hb, heap_alloc_new w _, Nat.le_refl _, by simp [maxLen], rfl, rfl⟩⟩, ?_⟩
  exact RowsR.snoc (RowsR.nil _ _) rfl ⟨rfl, hx⟩
end Go.Proofs.YtljmklohgpaopaaGreatDoor
