/- The document's Entry. The document's entries of a block. -/
import Derived.Test.YtljmklohgpaopaaGreatDoorMgClashes16
import Derived.Test.YtljmklohgpaopaaGreatDoorMgClashes2
set_option linter.unusedVariables false
set_option linter.unusedSimpArgs false

namespace Go.Proofs.YtljmklohgpaopaaGreatDoor
open Go.RowKit

theorem sv_strs (ls : List (List UInt8)) : sv (ls.map tstr) = ls.map fun l => .string (tstr l) := by unfold sv; rw [List.map_map]; rfl
theorem bl_strs (ls : List (List UInt8)) : bl (ls.map tstr) = ls := by
  unfold bl
  rw [List.map_map]
  conv => rhs; rw [← List.map_id ls]
  exact List.map_congr_left fun l _ => by simp [tstr]
/-- A list of texts, as it is read. -/
def StrSrc (w : World) (A : Option Addr) (ls : List (List UInt8)) : Prop := Src w A (ls.map fun l => .string (tstr l)) ∧ ∀ l ∈ ls, l.length ≤ 140737488351232
theorem StrSrc.below {w w' : World} {A : Option Addr} {ls : List (List UInt8)} (h : StrSrc w A ls) (hb : Below w.heap.size w w') : StrSrc w' A ls := ⟨h.1.below hb, h.2⟩
theorem SL.strs {w : World} {base : Nat} {v : Value} {ls : List (List UInt8)} (h : SL w base v ls) : ∃ A cap, v = .slice A ls.length cap ∧ ls.length ≤ cap ∧ StrSrc w A ls ∧ ∀ p, A = some p → base ≤ p.block ∧ p.block < w.heap.size := by
  obtain ⟨A, cap, cs, rfl, h1, h2, h3, h4⟩ := h.src StR.fr
  refine ⟨A, cap, rfl, h1, ⟨?_, fun l hl => ?_⟩, h4⟩
  · rw [h3.strs] at h2; exact h2
  · obtain ⟨k, hk, rfl⟩ := List.getElem_of_mem hl
    exact (h3.2 k _ (List.getElem?_eq_getElem hk)).2
theorem refRoot_tx (ls : List (List UInt8)) (A : Option Addr) (n cap : Nat) (w : World) (h : StrSrc w A ls) (hn : ls.length = n) (hc : n ≤ cap) (hm : n ≤ 4611686018427387903) :
    Calls Tryz.prog 40 #[.slice A n cap] w (TX w (Pl.be 4 (Pl.root ls))) := by
  subst hn
  have := refRoot_any (ls.map tstr).length (ls.map tstr) A cap w (Nat.le_refl _) (fun s hs => by obtain ⟨l, hl, rfl⟩ := List.mem_map.1 hs; rw [tstr_size]; exact h.2 l hl) (by rw [sv_strs]; exact h.1) (by simpa using hc) (by simpa using hm)
  rw [bl_strs, List.length_map] at this
  exact this.mono fun _ _ h => h
theorem refSum_tx (l : List UInt8) (w : World) (hl : l.length ≤ 140737488351232) : Calls Tryz.prog 14 #[.string (tstr l)] w (TX w (Pl.be 4 (Pl.sumN l))) := by
  refine (refSum_any (tstr l) w (by rw [tstr_size]; omega)).mono fun e w' h => ?_
  rw [show (tstr l).data.toList = l by simp [tstr]] at h
  exact h
set_option maxHeartbeats 2000000 in
set_option maxRecDepth 100000 in
theorem entryR_any (num : Nat) (P : Nat → Prop) (c : List Value) (t : Pl.Txn) (w : World) (hnum : num < 9223372036854775808) (hR : TxR w P c t) (hP : ∀ b, P b → b < w.heap.size) (ht : Pl.TxOk t) :
    Calls Tryz.prog 74 #[.int .i64 num, .agg c.toArray] w (TX w (Pl.entryOf num t)) := by
  have hR0 := hR
  obtain ⟨A, cap, cs, rfl, hcap, hs, hrows, hA⟩ := hR
  obtain ⟨hti, hol, hok⟩ := ht
  have hti : t.time < 18446744073709551616 := by simpa using hti
  obtain ⟨wb, hwb⟩ : ∃ wb, w.alloc (.cells #[.int .i64 (sig t.time), .slice A t.ops.length cap] 90) = wb := ⟨_, rfl⟩
  obtain ⟨gb, hgb⟩ : ∃ g, w.heap.size = g := ⟨_, rfl⟩
  have hbb : Below w.heap.size w wb := by rw [← hwb]; exact below_alloc _ _
  have BB : Blk wb gb 90 [.int .i64 (sig t.time), .slice A t.ops.length cap] := by rw [← hwb, ← hgb]; exact Blk.new w 90 _
  have HTT := Lib.hid (refTexts_any P _ t wb (hR0.only (Only.of_below hbb (fun _ => False)) (fun _ _ h => h)) (fun b hb => Nat.lt_of_lt_of_le (hP b hb) hbb.size) hok (by omega))
  have HBB := Lib.hid hbb
  obtain ⟨n, hn⟩ : ∃ n, t.ops.length = n := ⟨_, rfl⟩
  obtain ⟨time, htime⟩ : ∃ n, t.time = n := ⟨_, rfl⟩
  have HE : Hid (Pl.entryOf num t = Pl.be 4 num ++ Pl.be 8 time ++ [UInt8.ofNat n] ++ Pl.be 4 (Pl.root (t.ops.map Pl.encOp))) := by rw [Hid, ← hn, ← htime]; rfl
  have HN : Hid ((t.ops.map Pl.encOp).length = n) := by rw [Hid, List.length_map]; exact hn
  rw [hn, htime] at hwb BB HTT
  rw [htime] at hti
  rw [hn] at hol
  have ww := wrap_sig hti
  have wn := wrap_u8 (show n < 256 by omega)
  have w6 : IntKind.u64.wrap ((num : Nat) : Int) = (num : Int) := by rw [IntKind.wrap_u64]; omega
  rw [hn, htime]
  obtain ⟨c0, c1, f0, f1⟩ := facts2 BB
  have HBK := Lib.hid BB
  have opN_src : ∀ W : World, BytesAt (W.alloc (.cells #[.int .u8 (n : Nat)] 5)) (some ⟨W.heap.size, 0, none⟩) [UInt8.ofNat n] := fun W => (src_one W n (by omega)).bytes
  have HBN := Lib.hid (fun W => refBytes_tx num 4 W (by omega) (by omega))
  have HBY := Lib.hid (fun W => refBytes_tx time 8 W hti (by omega))
  obtain ⟨r, hr⟩ : ∃ r, Pl.root (t.ops.map Pl.encOp) = r := ⟨_, rfl⟩
  have HRR := Lib.hid hr
  have k1 : ∀ W, (Op.stringOp .add (tstr (Pl.be 4 num)) (tstr (Pl.be 8 time))).run Tryz.prog W = .ok (.string (tstr (Pl.be 4 num ++ Pl.be 8 time))) W := fun W => run_cat W _ _ (by simp [Pl.be_length])
  have k2 : ∀ W, (Op.stringOp .add (tstr (Pl.be 4 num ++ Pl.be 8 time)) (tstr [UInt8.ofNat n])).run Tryz.prog W = .ok (.string (tstr (Pl.be 4 num ++ Pl.be 8 time ++ [UInt8.ofNat n]))) W := fun W => run_cat W _ _ (by simp [Pl.be_length])
  have k3 : ∀ W, (Op.stringOp .add (tstr (Pl.be 4 num ++ Pl.be 8 time ++ [UInt8.ofNat n])) (tstr (Pl.be 4 r))).run Tryz.prog W = .ok (.string (tstr (Pl.be 4 num ++ Pl.be 8 time ++ [UInt8.ofNat n] ++ Pl.be 4 r))) W := fun W => run_cat W _ _ (by simp [Pl.be_length])
  clear hR0 hs hrows hA hok hbb BB hn htime hr hP hcap
  go_enter Tryz.func74, Tryz.ntmps74
  go_wp2_with fail
  refine HTT.out.mono ?_
  rintro e w1 ⟨v, rfl, hsl, hb1⟩
  obtain ⟨A1, cap1, rfl, hc1, hss, _⟩ := hsl.strs
  rw [HN.out] at hc1 ⊢
  have HRT := Lib.hid (refRoot_tx _ A1 n cap1 w1 hss HN.out hc1 (by omega))
  have HB1 := Lib.hid hb1
  clear hsl hss hb1
  go_wp2_with fail
  refine HRT.out.mono ?_
  rintro e wc ⟨rfl, hb2⟩
  rw [HRR.out]
  have HBC := Lib.hid (HB1.out.trans (hb2.mono HB1.out.size))
  have HD := Lib.hid (show ∀ W, Below wc.heap.size wc W → W.cell? ⟨gb, 0, none⟩ = some (.int .i64 (sig time)) ∧ W.cell? ⟨gb, 1, none⟩ = some (.slice A n cap) from fun W hb => by
    have h := (HBK.out.below HBC.out HBK.out.lt).below hb (HBK.out.below HBC.out HBK.out.lt).lt
    exact ⟨h.cell 0, h.cell 1⟩)
  have B_0 : Hid (Below wc.heap.size wc wc.drew) := (Below.refl _ _).drew
  clear hb2 c0 c1 f0 f1
  go_upto_region 2 with fail
  go_cut [4] from 9 (fun s4 wx => s4 = .string (tstr (Pl.be 4 num ++ Pl.be 8 time ++ [UInt8.ofNat n] ++ Pl.be 4 r)) ∧ Hid (Below wc.heap.size wc wx))
  case first =>
    refine wp_region_L 99 (fun _ => True) (fun W => W.cell? ⟨gb, 0, none⟩ = some (.int .i64 (sig time)) ∧ W.cell? ⟨gb, 1, none⟩ = some (.slice A n cap)) (by kernel_rfl) trivial (HD.out _ B_0.out) (fun hTill => ?_)
    refine wpL_take' (i := 0) (oi := _) (v := ?_) rfl (by kernel_rfl) (by kernel_rfl) (by kernel_rfl) (by kernel_rfl) (fun _ _ _ h => h) (.inl ⟨by rfl, ?_⟩) (by assumption) ?_
    rotate_left
    · intro W hSw
      (try dsimp only at hSw)
      go_simp
      (try rfl)
    (try simp only [Act.put, List.getElem_toArray, List.getElem_cons_succ, List.getElem_cons_zero, List.setIfInBounds_toArray, List.set_cons_zero, List.set_cons_succ])
    refine wpL_take' (i := 1) (oi := _) (v := ?_) rfl (by kernel_rfl) (by kernel_rfl) (by kernel_rfl) (by kernel_rfl) (fun _ _ _ h => h) (.inl ⟨by rfl, ?_⟩) (by assumption) ?_
    rotate_left
    · intro W hSw
      (try dsimp only at hSw)
      go_simp
      (try rfl)
    (try simp only [Act.put, List.getElem_toArray, List.getElem_cons_succ, List.getElem_cons_zero, List.setIfInBounds_toArray, List.set_cons_zero, List.set_cons_succ])
    refine wpL_take' (i := 3) (oi := _) (v := ?_) rfl (by kernel_rfl) (by kernel_rfl) (by kernel_rfl) (by kernel_rfl) (fun _ _ _ h => h) (.inl ⟨by rfl, ?_⟩) (by assumption) ?_
    rotate_left
    · intro W hSw
      (try dsimp only at hSw)
      go_simp
      (try rfl)
    (try simp only [Act.put, List.getElem_toArray, List.getElem_cons_succ, List.getElem_cons_zero, List.setIfInBounds_toArray, List.set_cons_zero, List.set_cons_succ])
    refine wpL_take' (i := 4) (oi := _) (v := ?_) rfl (by kernel_rfl) (by kernel_rfl) (by kernel_rfl) (by kernel_rfl) (fun _ _ _ h => h) (.inl ⟨by rfl, ?_⟩) (by assumption) ?_
    rotate_left
    · intro W hSw
      (try dsimp only at hSw)
      go_simp
      (try rfl)
    (try simp only [Act.put, List.getElem_toArray, List.getElem_cons_succ, List.getElem_cons_zero, List.setIfInBounds_toArray, List.set_cons_zero, List.set_cons_succ])
    refine wpL_take' (i := 5) (oi := _) (v := ?_) rfl (by kernel_rfl) (by kernel_rfl) (by kernel_rfl) (by kernel_rfl) (fun _ _ _ h => h) (.inl ⟨by rfl, ?_⟩) (by assumption) ?_
    rotate_left
    · intro W hSw
      (try dsimp only at hSw)
      go_simp
      (try rfl)
    (try simp only [Act.put, List.getElem_toArray, List.getElem_cons_succ, List.getElem_cons_zero, List.setIfInBounds_toArray, List.set_cons_zero, List.set_cons_succ])
    refine wpL_take' (i := 8) (oi := _) (v := ?_) rfl (by kernel_rfl) (by kernel_rfl) (by kernel_rfl) (by kernel_rfl) (fun _ _ _ h => h) (.inl ⟨by rfl, ?_⟩) (by assumption) ?_
    rotate_left
    · intro W hSw
      (try dsimp only at hSw)
      go_simp
      (try rfl)
    (try simp only [Act.put, List.getElem_toArray, List.getElem_cons_succ, List.getElem_cons_zero, List.setIfInBounds_toArray, List.set_cons_zero, List.set_cons_succ])
    refine wpL_take' (i := 9) (oi := _) (v := ?_) rfl (by kernel_rfl) (by kernel_rfl) (by kernel_rfl) (by kernel_rfl) (fun _ _ _ h => h) (.inl ⟨by rfl, ?_⟩) (by assumption) ?_
    rotate_left
    · intro W hSw
      (try dsimp only at hSw)
      go_simp
      (try rfl)
    (try simp only [Act.put, List.getElem_toArray, List.getElem_cons_succ, List.getElem_cons_zero, List.setIfInBounds_toArray, List.set_cons_zero, List.set_cons_succ])
    refine wpL_take' (i := 10) (oi := _) (v := ?_) rfl (by kernel_rfl) (by kernel_rfl) (by kernel_rfl) (by kernel_rfl) (fun _ _ _ h => h) (.inl ⟨by rfl, ?_⟩) (by assumption) ?_
    rotate_left
    · intro W hSw
      (try dsimp only at hSw)
      go_simp
      (try rfl)
    (try simp only [Act.put, List.getElem_toArray, List.getElem_cons_succ, List.getElem_cons_zero, List.setIfInBounds_toArray, List.set_cons_zero, List.set_cons_succ])
    refine wpL_take' (i := 11) (oi := _) (v := ?_) rfl (by kernel_rfl) (by kernel_rfl) (by kernel_rfl) (by kernel_rfl) (fun _ _ _ h => h) (.inl ⟨by rfl, ?_⟩) (by assumption) ?_
    rotate_left
    · intro W hSw
      (try dsimp only at hSw)
      go_simp
      (try rfl)
    (try simp only [Act.put, List.getElem_toArray, List.getElem_cons_succ, List.getElem_cons_zero, List.setIfInBounds_toArray, List.set_cons_zero, List.set_cons_succ])
    refine wpL_take' (i := 15) (oi := _) (v := ?_) rfl (by kernel_rfl) (by kernel_rfl) (by kernel_rfl) (by kernel_rfl) (fun _ _ _ h => h) (.inl ⟨by rfl, ?_⟩) (by assumption) ?_
    rotate_left
    · intro W hSw
      (try dsimp only at hSw)
      go_simp
      (try rfl)
    (try simp only [Act.put, List.getElem_toArray, List.getElem_cons_succ, List.getElem_cons_zero, List.setIfInBounds_toArray, List.set_cons_zero, List.set_cons_succ])
    refine wpL_ready (rs := [2, 12]) (by kernel_rfl) (by simp) ?_
    refine AllL.cons (o := _) rfl (fun K hK => ?_) (AllL.cons (o := _) rfl (fun K hK => ?_) (AllL.nil))
    · go_simp
      refine (HBN.out _).mono ?_
      rintro e W1 ⟨rfl, hb1⟩
      have B_1 : Hid (Below wc.heap.size wc W1) := B_0.out.trans (hb1.mono B_0.out.size)
      clear hb1
      go_wp2_with fail
      refine hK.out _ _ ⟨fun _ => trivial, HD.out _ B_1.out⟩ (fun hTill => ?_)
      clear hK K
      (try simp only [Act.put, List.getElem_toArray, List.getElem_cons_succ, List.getElem_cons_zero, List.setIfInBounds_toArray, List.set_cons_zero, List.set_cons_succ])
      refine wpL_ready (rs := [6, 12]) (by kernel_rfl) (by simp) ?_
      refine AllL.cons (o := _) rfl (fun K hK => ?_) (AllL.cons (o := _) rfl (fun K hK => ?_) (AllL.nil))
      · go_simp
        refine (HBY.out _).mono ?_
        rintro e W2 ⟨rfl, hb2⟩
        have B_2 : Hid (Below wc.heap.size wc W2) := B_1.out.trans (hb2.mono B_1.out.size)
        clear hb2
        go_wp2_with fail
        refine hK.out _ _ ⟨fun _ => trivial, HD.out _ B_2.out⟩ (fun hTill => ?_)
        clear hK K
        (try simp only [Act.put, List.getElem_toArray, List.getElem_cons_succ, List.getElem_cons_zero, List.setIfInBounds_toArray, List.set_cons_zero, List.set_cons_succ])
        refine wpL_take' (i := 7) (oi := _) (v := ?_) rfl (by kernel_rfl) (by kernel_rfl) (by kernel_rfl) (by kernel_rfl) (fun _ _ _ h => h) (.inl ⟨by rfl, ?_⟩) (by assumption) ?_
        rotate_left
        · intro W hSw
          (try dsimp only at hSw)
          go_simp
          (try rfl)
        (try simp only [Act.put, List.getElem_toArray, List.getElem_cons_succ, List.getElem_cons_zero, List.setIfInBounds_toArray, List.set_cons_zero, List.set_cons_succ])
        refine wpL_ready (rs := [12]) (by kernel_rfl) (by simp) ?_
        refine AllL.cons (o := _) rfl (fun K hK => ?_) (AllL.nil)
        obtain ⟨W3, hW3⟩ : ∃ W, World.alloc W2 (.cells #[.int .u8 (n : Nat)] 5) = W := ⟨_, rfl⟩
        obtain ⟨gb3, hgb3⟩ : ∃ g, Array.size (World.heap W2) = g := ⟨_, rfl⟩
        have B_3 : Hid (Below wc.heap.size wc W3) := by rw [Hid, ← hW3]; exact B_2.out.alloc B_2.out.size _
        have S_3 : Hid (BytesAt W3 (some ⟨gb3, 0, none⟩) [UInt8.ofNat n]) := by rw [Hid, ← hW3, ← hgb3]; exact opN_src W2
        go_simp
        (try rw [hW3])
        refine hK.out _ _ ⟨fun _ => trivial, HD.out _ B_3.out⟩ (fun hTill => ?_)
        clear hK K
        (try simp only [Act.put, List.getElem_toArray, List.getElem_cons_succ, List.getElem_cons_zero, List.setIfInBounds_toArray, List.set_cons_zero, List.set_cons_succ])
        refine wpL_ready (rs := [13]) (by kernel_rfl) (by simp) ?_
        refine AllL.cons (o := _) rfl (fun K hK => ?_) (AllL.nil)
        have hcv4 : (convert 25 9 (.slice (some ⟨gb3, 0, none⟩) 1 1)).run Tryz.prog W3 = .ok (.string (tstr [UInt8.ofNat n])) W3 := run_tostr W3 (some ⟨gb3, 0, none⟩) [UInt8.ofNat n] 1 S_3.out
        go_simp
        refine hK.out _ _ ⟨fun _ => trivial, HD.out _ B_3.out⟩ (fun hTill => ?_)
        clear hK K
        (try simp only [Act.put, List.getElem_toArray, List.getElem_cons_succ, List.getElem_cons_zero, List.setIfInBounds_toArray, List.set_cons_zero, List.set_cons_succ])
        refine wpL_take' (i := 14) (oi := _) (v := ?_) rfl (by kernel_rfl) (by kernel_rfl) (by kernel_rfl) (by kernel_rfl) (fun _ _ _ h => h) (.inl ⟨by rfl, ?_⟩) (by assumption) ?_
        rotate_left
        · intro W hSw
          (try dsimp only at hSw)
          go_simp
          (try rfl)
        (try simp only [Act.put, List.getElem_toArray, List.getElem_cons_succ, List.getElem_cons_zero, List.setIfInBounds_toArray, List.set_cons_zero, List.set_cons_succ])
        refine wpL_take' (i := 16) (oi := _) (v := ?_) rfl (by kernel_rfl) (by kernel_rfl) (by kernel_rfl) (by kernel_rfl) (fun _ _ _ h => h) (.inl ⟨by rfl, ?_⟩) (by assumption) ?_
        rotate_left
        · intro W hSw
          (try dsimp only at hSw)
          go_simp
          (try rfl)
        (try simp only [Act.put, List.getElem_toArray, List.getElem_cons_succ, List.getElem_cons_zero, List.setIfInBounds_toArray, List.set_cons_zero, List.set_cons_succ])
        refine wpL_take' (i := 17) (oi := _) (v := ?_) rfl (by kernel_rfl) (by kernel_rfl) (by kernel_rfl) (by kernel_rfl) (fun _ _ _ h => h) (.inl ⟨by rfl, ?_⟩) (by assumption) ?_
        rotate_left
        · intro W hSw
          (try dsimp only at hSw)
          go_simp
          (try rfl)
        (try simp only [Act.put, List.getElem_toArray, List.getElem_cons_succ, List.getElem_cons_zero, List.setIfInBounds_toArray, List.set_cons_zero, List.set_cons_succ])
        refine wpL_done (by kernel_rfl) ?_ _
        clear hTill
        go_wp2_with fail
        go_meet
        exact ⟨rfl, B_3.out⟩
      · obtain ⟨W5, hW5⟩ : ∃ W, World.alloc W1 (.cells #[.int .u8 (n : Nat)] 5) = W := ⟨_, rfl⟩
        obtain ⟨gb5, hgb5⟩ : ∃ g, Array.size (World.heap W1) = g := ⟨_, rfl⟩
        have B_5 : Hid (Below wc.heap.size wc W5) := by rw [Hid, ← hW5]; exact B_1.out.alloc B_1.out.size _
        have S_5 : Hid (BytesAt W5 (some ⟨gb5, 0, none⟩) [UInt8.ofNat n]) := by rw [Hid, ← hW5, ← hgb5]; exact opN_src W1
        go_simp
        (try rw [hW5])
        refine hK.out _ _ ⟨fun _ => trivial, HD.out _ B_5.out⟩ (fun hTill => ?_)
        clear hK K
        (try simp only [Act.put, List.getElem_toArray, List.getElem_cons_succ, List.getElem_cons_zero, List.setIfInBounds_toArray, List.set_cons_zero, List.set_cons_succ])
        refine wpL_ready (rs := [6, 13]) (by kernel_rfl) (by simp) ?_
        refine AllL.cons (o := _) rfl (fun K hK => ?_) (AllL.cons (o := _) rfl (fun K hK => ?_) (AllL.nil))
        · go_simp
          refine (HBY.out _).mono ?_
          rintro e W6 ⟨rfl, hb6⟩
          have B_6 : Hid (Below wc.heap.size wc W6) := B_5.out.trans (hb6.mono B_5.out.size)
          have S_6_12 : Hid (BytesAt W6 (some ⟨gb5, 0, none⟩) [UInt8.ofNat n]) := S_5.out.keep hb6
          clear hb6
          go_wp2_with fail
          refine hK.out _ _ ⟨fun _ => trivial, HD.out _ B_6.out⟩ (fun hTill => ?_)
          clear hK K
          (try simp only [Act.put, List.getElem_toArray, List.getElem_cons_succ, List.getElem_cons_zero, List.setIfInBounds_toArray, List.set_cons_zero, List.set_cons_succ])
          refine wpL_take' (i := 7) (oi := _) (v := ?_) rfl (by kernel_rfl) (by kernel_rfl) (by kernel_rfl) (by kernel_rfl) (fun _ _ _ h => h) (.inl ⟨by rfl, ?_⟩) (by assumption) ?_
          rotate_left
          · intro W hSw
            (try dsimp only at hSw)
            go_simp
            (try rfl)
          (try simp only [Act.put, List.getElem_toArray, List.getElem_cons_succ, List.getElem_cons_zero, List.setIfInBounds_toArray, List.set_cons_zero, List.set_cons_succ])
          refine wpL_ready (rs := [13]) (by kernel_rfl) (by simp) ?_
          refine AllL.cons (o := _) rfl (fun K hK => ?_) (AllL.nil)
          have hcv7 : (convert 25 9 (.slice (some ⟨gb5, 0, none⟩) 1 1)).run Tryz.prog W6 = .ok (.string (tstr [UInt8.ofNat n])) W6 := run_tostr W6 (some ⟨gb5, 0, none⟩) [UInt8.ofNat n] 1 S_6_12.out
          go_simp
          refine hK.out _ _ ⟨fun _ => trivial, HD.out _ B_6.out⟩ (fun hTill => ?_)
          clear hK K
          (try simp only [Act.put, List.getElem_toArray, List.getElem_cons_succ, List.getElem_cons_zero, List.setIfInBounds_toArray, List.set_cons_zero, List.set_cons_succ])
          refine wpL_take' (i := 14) (oi := _) (v := ?_) rfl (by kernel_rfl) (by kernel_rfl) (by kernel_rfl) (by kernel_rfl) (fun _ _ _ h => h) (.inl ⟨by rfl, ?_⟩) (by assumption) ?_
          rotate_left
          · intro W hSw
            (try dsimp only at hSw)
            go_simp
            (try rfl)
          (try simp only [Act.put, List.getElem_toArray, List.getElem_cons_succ, List.getElem_cons_zero, List.setIfInBounds_toArray, List.set_cons_zero, List.set_cons_succ])
          refine wpL_take' (i := 16) (oi := _) (v := ?_) rfl (by kernel_rfl) (by kernel_rfl) (by kernel_rfl) (by kernel_rfl) (fun _ _ _ h => h) (.inl ⟨by rfl, ?_⟩) (by assumption) ?_
          rotate_left
          · intro W hSw
            (try dsimp only at hSw)
            go_simp
            (try rfl)
          (try simp only [Act.put, List.getElem_toArray, List.getElem_cons_succ, List.getElem_cons_zero, List.setIfInBounds_toArray, List.set_cons_zero, List.set_cons_succ])
          refine wpL_take' (i := 17) (oi := _) (v := ?_) rfl (by kernel_rfl) (by kernel_rfl) (by kernel_rfl) (by kernel_rfl) (fun _ _ _ h => h) (.inl ⟨by rfl, ?_⟩) (by assumption) ?_
          rotate_left
          · intro W hSw
            (try dsimp only at hSw)
            go_simp
            (try rfl)
          (try simp only [Act.put, List.getElem_toArray, List.getElem_cons_succ, List.getElem_cons_zero, List.setIfInBounds_toArray, List.set_cons_zero, List.set_cons_succ])
          refine wpL_done (by kernel_rfl) ?_ _
          clear hTill
          go_wp2_with fail
          go_meet
          exact ⟨rfl, B_6.out⟩
        · have hcv8 : (convert 25 9 (.slice (some ⟨gb5, 0, none⟩) 1 1)).run Tryz.prog W5 = .ok (.string (tstr [UInt8.ofNat n])) W5 := run_tostr W5 (some ⟨gb5, 0, none⟩) [UInt8.ofNat n] 1 S_5.out
          go_simp
          refine hK.out _ _ ⟨fun _ => trivial, HD.out _ B_5.out⟩ (fun hTill => ?_)
          clear hK K
          (try simp only [Act.put, List.getElem_toArray, List.getElem_cons_succ, List.getElem_cons_zero, List.setIfInBounds_toArray, List.set_cons_zero, List.set_cons_succ])
          refine wpL_ready (rs := [6]) (by kernel_rfl) (by simp) ?_
          refine AllL.cons (o := _) rfl (fun K hK => ?_) (AllL.nil)
          go_simp
          refine (HBY.out _).mono ?_
          rintro e W9 ⟨rfl, hb9⟩
          have B_9 : Hid (Below wc.heap.size wc W9) := B_5.out.trans (hb9.mono B_5.out.size)
          have S_9_12 : Hid (BytesAt W9 (some ⟨gb5, 0, none⟩) [UInt8.ofNat n]) := S_5.out.keep hb9
          clear hb9
          go_wp2_with fail
          refine hK.out _ _ ⟨fun _ => trivial, HD.out _ B_9.out⟩ (fun hTill => ?_)
          clear hK K
          (try simp only [Act.put, List.getElem_toArray, List.getElem_cons_succ, List.getElem_cons_zero, List.setIfInBounds_toArray, List.set_cons_zero, List.set_cons_succ])
          refine wpL_take' (i := 7) (oi := _) (v := ?_) rfl (by kernel_rfl) (by kernel_rfl) (by kernel_rfl) (by kernel_rfl) (fun _ _ _ h => h) (.inl ⟨by rfl, ?_⟩) (by assumption) ?_
          rotate_left
          · intro W hSw
            (try dsimp only at hSw)
            go_simp
            (try rfl)
          (try simp only [Act.put, List.getElem_toArray, List.getElem_cons_succ, List.getElem_cons_zero, List.setIfInBounds_toArray, List.set_cons_zero, List.set_cons_succ])
          refine wpL_take' (i := 14) (oi := _) (v := ?_) rfl (by kernel_rfl) (by kernel_rfl) (by kernel_rfl) (by kernel_rfl) (fun _ _ _ h => h) (.inl ⟨by rfl, ?_⟩) (by assumption) ?_
          rotate_left
          · intro W hSw
            (try dsimp only at hSw)
            go_simp
            (try rfl)
          (try simp only [Act.put, List.getElem_toArray, List.getElem_cons_succ, List.getElem_cons_zero, List.setIfInBounds_toArray, List.set_cons_zero, List.set_cons_succ])
          refine wpL_take' (i := 16) (oi := _) (v := ?_) rfl (by kernel_rfl) (by kernel_rfl) (by kernel_rfl) (by kernel_rfl) (fun _ _ _ h => h) (.inl ⟨by rfl, ?_⟩) (by assumption) ?_
          rotate_left
          · intro W hSw
            (try dsimp only at hSw)
            go_simp
            (try rfl)
          (try simp only [Act.put, List.getElem_toArray, List.getElem_cons_succ, List.getElem_cons_zero, List.setIfInBounds_toArray, List.set_cons_zero, List.set_cons_succ])
          refine wpL_take' (i := 17) (oi := _) (v := ?_) rfl (by kernel_rfl) (by kernel_rfl) (by kernel_rfl) (by kernel_rfl) (fun _ _ _ h => h) (.inl ⟨by rfl, ?_⟩) (by assumption) ?_
          rotate_left
          · intro W hSw
            (try dsimp only at hSw)
            go_simp
            (try rfl)
          (try simp only [Act.put, List.getElem_toArray, List.getElem_cons_succ, List.getElem_cons_zero, List.setIfInBounds_toArray, List.set_cons_zero, List.set_cons_succ])
          refine wpL_done (by kernel_rfl) ?_ _
          clear hTill
          go_wp2_with fail
          go_meet
          exact ⟨rfl, B_9.out⟩
    · obtain ⟨W10, hW10⟩ : ∃ W, World.alloc wc.drew (.cells #[.int .u8 (n : Nat)] 5) = W := ⟨_, rfl⟩
      obtain ⟨gb10, hgb10⟩ : ∃ g, Array.size (World.heap wc.drew) = g := ⟨_, rfl⟩
      have B_10 : Hid (Below wc.heap.size wc W10) := by rw [Hid, ← hW10]; exact B_0.out.alloc B_0.out.size _
      have S_10 : Hid (BytesAt W10 (some ⟨gb10, 0, none⟩) [UInt8.ofNat n]) := by rw [Hid, ← hW10, ← hgb10]; exact opN_src wc.drew
      go_simp
      (try rw [hW10])
      refine hK.out _ _ ⟨fun _ => trivial, HD.out _ B_10.out⟩ (fun hTill => ?_)
      clear hK K
      (try simp only [Act.put, List.getElem_toArray, List.getElem_cons_succ, List.getElem_cons_zero, List.setIfInBounds_toArray, List.set_cons_zero, List.set_cons_succ])
      refine wpL_ready (rs := [2, 13]) (by kernel_rfl) (by simp) ?_
      refine AllL.cons (o := _) rfl (fun K hK => ?_) (AllL.cons (o := _) rfl (fun K hK => ?_) (AllL.nil))
      · go_simp
        refine (HBN.out _).mono ?_
        rintro e W11 ⟨rfl, hb11⟩
        have B_11 : Hid (Below wc.heap.size wc W11) := B_10.out.trans (hb11.mono B_10.out.size)
        have S_11_12 : Hid (BytesAt W11 (some ⟨gb10, 0, none⟩) [UInt8.ofNat n]) := S_10.out.keep hb11
        clear hb11
        go_wp2_with fail
        refine hK.out _ _ ⟨fun _ => trivial, HD.out _ B_11.out⟩ (fun hTill => ?_)
        clear hK K
        (try simp only [Act.put, List.getElem_toArray, List.getElem_cons_succ, List.getElem_cons_zero, List.setIfInBounds_toArray, List.set_cons_zero, List.set_cons_succ])
        refine wpL_ready (rs := [6, 13]) (by kernel_rfl) (by simp) ?_
        refine AllL.cons (o := _) rfl (fun K hK => ?_) (AllL.cons (o := _) rfl (fun K hK => ?_) (AllL.nil))
        · go_simp
          refine (HBY.out _).mono ?_
          rintro e W12 ⟨rfl, hb12⟩
          have B_12 : Hid (Below wc.heap.size wc W12) := B_11.out.trans (hb12.mono B_11.out.size)
          have S_12_12 : Hid (BytesAt W12 (some ⟨gb10, 0, none⟩) [UInt8.ofNat n]) := S_11_12.out.keep hb12
          clear hb12
          go_wp2_with fail
          refine hK.out _ _ ⟨fun _ => trivial, HD.out _ B_12.out⟩ (fun hTill => ?_)
          clear hK K
          (try simp only [Act.put, List.getElem_toArray, List.getElem_cons_succ, List.getElem_cons_zero, List.setIfInBounds_toArray, List.set_cons_zero, List.set_cons_succ])
          refine wpL_take' (i := 7) (oi := _) (v := ?_) rfl (by kernel_rfl) (by kernel_rfl) (by kernel_rfl) (by kernel_rfl) (fun _ _ _ h => h) (.inl ⟨by rfl, ?_⟩) (by assumption) ?_
          rotate_left
          · intro W hSw
            (try dsimp only at hSw)
            go_simp
            (try rfl)
          (try simp only [Act.put, List.getElem_toArray, List.getElem_cons_succ, List.getElem_cons_zero, List.setIfInBounds_toArray, List.set_cons_zero, List.set_cons_succ])
          refine wpL_ready (rs := [13]) (by kernel_rfl) (by simp) ?_
          refine AllL.cons (o := _) rfl (fun K hK => ?_) (AllL.nil)
          have hcv13 : (convert 25 9 (.slice (some ⟨gb10, 0, none⟩) 1 1)).run Tryz.prog W12 = .ok (.string (tstr [UInt8.ofNat n])) W12 := run_tostr W12 (some ⟨gb10, 0, none⟩) [UInt8.ofNat n] 1 S_12_12.out
          go_simp
          refine hK.out _ _ ⟨fun _ => trivial, HD.out _ B_12.out⟩ (fun hTill => ?_)
          clear hK K
          (try simp only [Act.put, List.getElem_toArray, List.getElem_cons_succ, List.getElem_cons_zero, List.setIfInBounds_toArray, List.set_cons_zero, List.set_cons_succ])
          refine wpL_take' (i := 14) (oi := _) (v := ?_) rfl (by kernel_rfl) (by kernel_rfl) (by kernel_rfl) (by kernel_rfl) (fun _ _ _ h => h) (.inl ⟨by rfl, ?_⟩) (by assumption) ?_
          rotate_left
          · intro W hSw
            (try dsimp only at hSw)
            go_simp
            (try rfl)
          (try simp only [Act.put, List.getElem_toArray, List.getElem_cons_succ, List.getElem_cons_zero, List.setIfInBounds_toArray, List.set_cons_zero, List.set_cons_succ])
          refine wpL_take' (i := 16) (oi := _) (v := ?_) rfl (by kernel_rfl) (by kernel_rfl) (by kernel_rfl) (by kernel_rfl) (fun _ _ _ h => h) (.inl ⟨by rfl, ?_⟩) (by assumption) ?_
          rotate_left
          · intro W hSw
            (try dsimp only at hSw)
            go_simp
            (try rfl)
          (try simp only [Act.put, List.getElem_toArray, List.getElem_cons_succ, List.getElem_cons_zero, List.setIfInBounds_toArray, List.set_cons_zero, List.set_cons_succ])
          refine wpL_take' (i := 17) (oi := _) (v := ?_) rfl (by kernel_rfl) (by kernel_rfl) (by kernel_rfl) (by kernel_rfl) (fun _ _ _ h => h) (.inl ⟨by rfl, ?_⟩) (by assumption) ?_
          rotate_left
          · intro W hSw
            (try dsimp only at hSw)
            go_simp
            (try rfl)
          (try simp only [Act.put, List.getElem_toArray, List.getElem_cons_succ, List.getElem_cons_zero, List.setIfInBounds_toArray, List.set_cons_zero, List.set_cons_succ])
          refine wpL_done (by kernel_rfl) ?_ _
          clear hTill
          go_wp2_with fail
          go_meet
          exact ⟨rfl, B_12.out⟩
        · have hcv14 : (convert 25 9 (.slice (some ⟨gb10, 0, none⟩) 1 1)).run Tryz.prog W11 = .ok (.string (tstr [UInt8.ofNat n])) W11 := run_tostr W11 (some ⟨gb10, 0, none⟩) [UInt8.ofNat n] 1 S_11_12.out
          go_simp
          refine hK.out _ _ ⟨fun _ => trivial, HD.out _ B_11.out⟩ (fun hTill => ?_)
          clear hK K
          (try simp only [Act.put, List.getElem_toArray, List.getElem_cons_succ, List.getElem_cons_zero, List.setIfInBounds_toArray, List.set_cons_zero, List.set_cons_succ])
          refine wpL_ready (rs := [6]) (by kernel_rfl) (by simp) ?_
          refine AllL.cons (o := _) rfl (fun K hK => ?_) (AllL.nil)
          go_simp
          refine (HBY.out _).mono ?_
          rintro e W15 ⟨rfl, hb15⟩
          have B_15 : Hid (Below wc.heap.size wc W15) := B_11.out.trans (hb15.mono B_11.out.size)
          have S_15_12 : Hid (BytesAt W15 (some ⟨gb10, 0, none⟩) [UInt8.ofNat n]) := S_11_12.out.keep hb15
          clear hb15
          go_wp2_with fail
          refine hK.out _ _ ⟨fun _ => trivial, HD.out _ B_15.out⟩ (fun hTill => ?_)
          clear hK K
          (try simp only [Act.put, List.getElem_toArray, List.getElem_cons_succ, List.getElem_cons_zero, List.setIfInBounds_toArray, List.set_cons_zero, List.set_cons_succ])
          refine wpL_take' (i := 7) (oi := _) (v := ?_) rfl (by kernel_rfl) (by kernel_rfl) (by kernel_rfl) (by kernel_rfl) (fun _ _ _ h => h) (.inl ⟨by rfl, ?_⟩) (by assumption) ?_
          rotate_left
          · intro W hSw
            (try dsimp only at hSw)
            go_simp
            (try rfl)
          (try simp only [Act.put, List.getElem_toArray, List.getElem_cons_succ, List.getElem_cons_zero, List.setIfInBounds_toArray, List.set_cons_zero, List.set_cons_succ])
          refine wpL_take' (i := 14) (oi := _) (v := ?_) rfl (by kernel_rfl) (by kernel_rfl) (by kernel_rfl) (by kernel_rfl) (fun _ _ _ h => h) (.inl ⟨by rfl, ?_⟩) (by assumption) ?_
          rotate_left
          · intro W hSw
            (try dsimp only at hSw)
            go_simp
            (try rfl)
          (try simp only [Act.put, List.getElem_toArray, List.getElem_cons_succ, List.getElem_cons_zero, List.setIfInBounds_toArray, List.set_cons_zero, List.set_cons_succ])
          refine wpL_take' (i := 16) (oi := _) (v := ?_) rfl (by kernel_rfl) (by kernel_rfl) (by kernel_rfl) (by kernel_rfl) (fun _ _ _ h => h) (.inl ⟨by rfl, ?_⟩) (by assumption) ?_
          rotate_left
          · intro W hSw
            (try dsimp only at hSw)
            go_simp
            (try rfl)
          (try simp only [Act.put, List.getElem_toArray, List.getElem_cons_succ, List.getElem_cons_zero, List.setIfInBounds_toArray, List.set_cons_zero, List.set_cons_succ])
          refine wpL_take' (i := 17) (oi := _) (v := ?_) rfl (by kernel_rfl) (by kernel_rfl) (by kernel_rfl) (by kernel_rfl) (fun _ _ _ h => h) (.inl ⟨by rfl, ?_⟩) (by assumption) ?_
          rotate_left
          · intro W hSw
            (try dsimp only at hSw)
            go_simp
            (try rfl)
          (try simp only [Act.put, List.getElem_toArray, List.getElem_cons_succ, List.getElem_cons_zero, List.setIfInBounds_toArray, List.set_cons_zero, List.set_cons_succ])
          refine wpL_done (by kernel_rfl) ?_ _
          clear hTill
          go_wp2_with fail
          go_meet
          exact ⟨rfl, B_15.out⟩
      · have hcv16 : (convert 25 9 (.slice (some ⟨gb10, 0, none⟩) 1 1)).run Tryz.prog W10 = .ok (.string (tstr [UInt8.ofNat n])) W10 := run_tostr W10 (some ⟨gb10, 0, none⟩) [UInt8.ofNat n] 1 S_10.out
        go_simp
        refine hK.out _ _ ⟨fun _ => trivial, HD.out _ B_10.out⟩ (fun hTill => ?_)
        clear hK K
        (try simp only [Act.put, List.getElem_toArray, List.getElem_cons_succ, List.getElem_cons_zero, List.setIfInBounds_toArray, List.set_cons_zero, List.set_cons_succ])
        refine wpL_ready (rs := [2]) (by kernel_rfl) (by simp) ?_
        refine AllL.cons (o := _) rfl (fun K hK => ?_) (AllL.nil)
        go_simp
        refine (HBN.out _).mono ?_
        rintro e W17 ⟨rfl, hb17⟩
        have B_17 : Hid (Below wc.heap.size wc W17) := B_10.out.trans (hb17.mono B_10.out.size)
        have S_17_12 : Hid (BytesAt W17 (some ⟨gb10, 0, none⟩) [UInt8.ofNat n]) := S_10.out.keep hb17
        clear hb17
        go_wp2_with fail
        refine hK.out _ _ ⟨fun _ => trivial, HD.out _ B_17.out⟩ (fun hTill => ?_)
        clear hK K
        (try simp only [Act.put, List.getElem_toArray, List.getElem_cons_succ, List.getElem_cons_zero, List.setIfInBounds_toArray, List.set_cons_zero, List.set_cons_succ])
        refine wpL_ready (rs := [6]) (by kernel_rfl) (by simp) ?_
        refine AllL.cons (o := _) rfl (fun K hK => ?_) (AllL.nil)
        go_simp
        refine (HBY.out _).mono ?_
        rintro e W18 ⟨rfl, hb18⟩
        have B_18 : Hid (Below wc.heap.size wc W18) := B_17.out.trans (hb18.mono B_17.out.size)
        have S_18_12 : Hid (BytesAt W18 (some ⟨gb10, 0, none⟩) [UInt8.ofNat n]) := S_17_12.out.keep hb18
        clear hb18
        go_wp2_with fail
        refine hK.out _ _ ⟨fun _ => trivial, HD.out _ B_18.out⟩ (fun hTill => ?_)
        clear hK K
        (try simp only [Act.put, List.getElem_toArray, List.getElem_cons_succ, List.getElem_cons_zero, List.setIfInBounds_toArray, List.set_cons_zero, List.set_cons_succ])
        refine wpL_take' (i := 7) (oi := _) (v := ?_) rfl (by kernel_rfl) (by kernel_rfl) (by kernel_rfl) (by kernel_rfl) (fun _ _ _ h => h) (.inl ⟨by rfl, ?_⟩) (by assumption) ?_
        rotate_left
        · intro W hSw
          (try dsimp only at hSw)
          go_simp
          (try rfl)
        (try simp only [Act.put, List.getElem_toArray, List.getElem_cons_succ, List.getElem_cons_zero, List.setIfInBounds_toArray, List.set_cons_zero, List.set_cons_succ])
        refine wpL_take' (i := 14) (oi := _) (v := ?_) rfl (by kernel_rfl) (by kernel_rfl) (by kernel_rfl) (by kernel_rfl) (fun _ _ _ h => h) (.inl ⟨by rfl, ?_⟩) (by assumption) ?_
        rotate_left
        · intro W hSw
          (try dsimp only at hSw)
          go_simp
          (try rfl)
        (try simp only [Act.put, List.getElem_toArray, List.getElem_cons_succ, List.getElem_cons_zero, List.setIfInBounds_toArray, List.set_cons_zero, List.set_cons_succ])
        refine wpL_take' (i := 16) (oi := _) (v := ?_) rfl (by kernel_rfl) (by kernel_rfl) (by kernel_rfl) (by kernel_rfl) (fun _ _ _ h => h) (.inl ⟨by rfl, ?_⟩) (by assumption) ?_
        rotate_left
        · intro W hSw
          (try dsimp only at hSw)
          go_simp
          (try rfl)
        (try simp only [Act.put, List.getElem_toArray, List.getElem_cons_succ, List.getElem_cons_zero, List.setIfInBounds_toArray, List.set_cons_zero, List.set_cons_succ])
        refine wpL_take' (i := 17) (oi := _) (v := ?_) rfl (by kernel_rfl) (by kernel_rfl) (by kernel_rfl) (by kernel_rfl) (fun _ _ _ h => h) (.inl ⟨by rfl, ?_⟩) (by assumption) ?_
        rotate_left
        · intro W hSw
          (try dsimp only at hSw)
          go_simp
          (try rfl)
        (try simp only [Act.put, List.getElem_toArray, List.getElem_cons_succ, List.getElem_cons_zero, List.setIfInBounds_toArray, List.set_cons_zero, List.set_cons_succ])
        refine wpL_done (by kernel_rfl) ?_ _
        clear hTill
        go_wp2_with fail
        go_meet
        exact ⟨rfl, B_18.out⟩
  case rest =>
    obtain ⟨rfl, HX⟩ := hcut
    go_wp2_with fail
    go_ret
    exact ⟨by rw [HE.out, HRR.out]; rfl, HBB.out.trans ((HBC.out.trans (HX.out.mono HBC.out.size)).mono HBB.out.size)⟩
end Go.Proofs.YtljmklohgpaopaaGreatDoor

namespace Go.Proofs.YtljmklohgpaopaaGreatDoor
open Go.RowKit

/-- A list of transactions, as it is read. -/
def TxsAt (w : World) (A : Option Addr) (ts : List Pl.Txn) : Prop := ∃ cs, Src w A cs ∧ RowsR 2 (TxR w (· < w.heap.size)) cs ts
theorem TxsAt.below {w w' : World} {A : Option Addr} {ts : List Pl.Txn} (h : TxsAt w A ts) (hb : Below w.heap.size w w') : TxsAt w' A ts := by
  obtain ⟨cs, h1, h2⟩ := h
  exact ⟨cs, h1.below hb, h2.mono fun c t _ h => (h.only (Only.of_below hb (fun _ => False)) (fun _ _ h => h)).mono fun b hb' => Nat.lt_of_lt_of_le hb' hb.size⟩
theorem TxsAt.at_ {w : World} {A : Option Addr} {ts : List Pl.Txn} (h : TxsAt w A ts) {k : Nat} {t : Pl.Txn} (hk : ts[k]? = some t) :
    ∃ b off T A' n' c', A = some ⟨b, off, none⟩ ∧ w.cell? ⟨b, off + k * 2, none⟩ = some (.int .i64 T) ∧ w.cell? ⟨b, off + k * 2 + 1, none⟩ = some (.slice A' n' c') ∧ TxR w (· < w.heap.size) [.int .i64 T, .slice A' n' c'] t := by
  obtain ⟨cs, h1, h2⟩ := h
  obtain ⟨c, hR, hcl, hcell⟩ := h2.at_ hk
  have hR0 := hR
  obtain ⟨A', cap, cs', rfl, _⟩ := hR
  obtain ⟨b, off, rfl, g0⟩ := h1.at_ _ _ (hcell 0 (by omega))
  have g1 := h1.cell _ _ (hcell 1 (by omega))
  rw [← Nat.add_assoc] at g1
  exact ⟨b, off, _, _, _, _, rfl, g0, g1, hR0⟩
theorem txAt_at {P : List Pl.Txn} {k : Nat} {t : Pl.Txn} (h : P[k]? = some t) : Pl.txAt P k = t := by
  unfold Pl.txAt
  rw [List.getD_eq_getElem?_getD, h]; rfl
theorem entryOf_len (n : Nat) (t : Pl.Txn) : (Pl.entryOf n t).length = 17 := by
  simp [Pl.entryOf, Pl.entry, Pl.be_length]
def entsTo (P : List Pl.Txn) (i j : Nat) : List (List UInt8) := (List.range j).map fun d => Pl.entryOf (3 * i + d + 1) (Pl.txAt P (3 * i + d))
theorem entsTo_three (P : List Pl.Txn) (i : Nat) : entsTo P i 3 = Pl.ents P i := by
  simp [entsTo, Pl.ents, List.range_succ]
theorem entsTo_succ (P : List Pl.Txn) (i j : Nat) : entsTo P i (j + 1) = entsTo P i j ++ [Pl.entryOf (3 * i + j + 1) (Pl.txAt P (3 * i + j))] := by
  unfold entsTo
  rw [List.range_succ, List.map_append]; rfl
set_option maxHeartbeats 2000000 in
set_option maxRecDepth 100000 in
theorem entriesR_any (i0 : Nat) (bi : Int) (hbi : bi = (i0 + 1 : Nat)) (n cap : Nat) (A : Option Addr) (ts : List Pl.Txn) (w : World) (hT : TxsAt w A ts) (hn : ts.length = n) (hm : n ≤ 1048576) (hi : 3 * (i0 + 1) ≤ n) (hok : ∀ t ∈ ts, Pl.TxOk t) :
    Calls Tryz.prog 41 #[.slice A n cap, .int .i64 bi] w (StrsPost w (Pl.ents ts i0)) := by
  obtain ⟨j0, hj0, hy0, hy1, hy2⟩ := info_parts Tryz.infoStr
  have HI := Lib.hid (And.intro hj0 (And.intro hy0 (And.intro hy1 hy2)))
  have HT := Lib.hid hT
  have HN := Lib.hid hn
  have HOK := Lib.hid hok
  have hb1 : 1 ≤ bi := by omega
  have hb2 : bi ≤ 400000 := by omega
  have HBI := Lib.hid hbi
  obtain ⟨e3, he3⟩ : ∃ e : Nat, 3 * i0 = e := ⟨_, rfl⟩
  have HE3 := Lib.hid he3
  have hx : 3 * (bi - 1) = (e3 : Int) := by omega
  clear hT hn hok hj0 hy0 hy1 hy2 hbi he3
  go_enter Tryz.func41, Tryz.ntmps41
  go_wp2_with fail
  go_loopw [5, 6] (fun u i wr => ∃ j m : Nat, j ≤ 3 ∧ i = .int .i64 (m : Int) ∧ Hid (m = e3 + j) ∧ Hid (SL wr w.heap.size u (entsTo ts i0 j)) ∧ Hid (Below w.heap.size w wr)) (fun _ i _ => e3 + 3 - (intOf i).toNat)
  case atStart => exact ⟨0, e3, by omega, rfl, rfl, OL.nil _ _, Below.refl _ _⟩
  case round =>
    obtain ⟨j, m, hj, rfl, HM, HO, HB⟩ := hrel
    by_cases hjn : j < 3
    · have hm1 := HM.out
      have h3 := HE3.out
      have hbi := HBI.out
      have q1 : (m : Int) < 3 * bi := by omega
      have q2 : (0 : Int) ≤ (m : Int) := by omega
      have q3 : (m : Int) < (n : Int) := by omega
      have q4 : m < 1048576 := by omega
      obtain ⟨t, ht⟩ : ∃ t, ts[m]? = some t := ⟨_, List.getElem?_eq_getElem (by rw [HN.out]; omega)⟩
      obtain ⟨b, off, T, A', n', c', rfl, g0, g1, hR⟩ := (HT.out.below HB.out).at_ ht
      have hE := entryR_any (m + 1) _ _ t wr (by omega) hR (fun _ h => h) (HOK.out t (List.mem_of_getElem? ht))
      rw [show (((m + 1 : Nat)) : Int) = (m : Int) + 1 by omega] at hE
      obtain ⟨x, hxe⟩ : ∃ x, Pl.entryOf (m + 1) t = x := ⟨_, rfl⟩
      have hxl : Hid (x.length = 17) := by rw [Hid, ← hxe]; exact entryOf_len _ _
      have HX : Hid (entsTo ts i0 (j + 1) = entsTo ts i0 j ++ [x]) := by
        rw [Hid, entsTo_succ, ← hxe, show 3 * i0 + j = m by omega, txAt_at ht]
      rw [hxe] at hE
      have HE := Lib.hid hE
      clear hE hxe hR ht hm1 h3 hbi
      go_wp2_with fail
      refine HE.out.mono ?_
      rintro e w3 ⟨rfl, hb3⟩
      have O3 := HO.out.below StR.fr hb3
      have B3 := Lib.hid (HB.out.trans (hb3.mono HB.out.size))
      obtain ⟨W3, hW3⟩ : ∃ W, w3.alloc (.cells #[.string (tstr x)] 9) = W := ⟨_, rfl⟩
      have hb4 : Below w3.heap.size w3 W3 := by rw [← hW3]; exact below_alloc _ _
      have S4 : Hid (Src W3 (some ⟨w3.heap.size, 0, none⟩) [.string (tstr x)]) := Src.of_blk (t := 9) (by rw [← hW3]; exact Blk.new w3 9 _)
      have O4 := Lib.hid (O3.below StR.fr hb4)
      have B4 := Lib.hid (B3.out.trans (hb4.mono B3.out.size))
      have HLN : Hid ((entsTo ts i0 j).length ≤ 4294967296) := by rw [Hid]; unfold entsTo; rw [List.length_map, List.length_range]; omega
      have R4 : Hid (StR W3 (fun b => w.heap.size ≤ b ∧ b < W3.heap.size ∧ u5.ownBlock ≠ some b) [.string (tstr x)] x) := ⟨rfl, by have := hxl.out; omega⟩
      clear hb3 hb4 O3
      go_wp2_with (first
        | (at_builtin
           refine wpList_ol (v := u5) StR.fr rfl (.tmp 24) (.tmp 26) 22 rfl Tryz.underlying22 HI.out.1 HI.out.2.1 HI.out.2.2.1 HI.out.2.2.2 rfl (by decide) rfl O4.out (some ⟨w3.heap.size, 0, none⟩) 1 [.string (tstr x)] x rfl rfl S4.out (by simp; rfl) R4.out HLN.out (by decide) B4.out.size ?_
           intro v5 w5 o5 m5
           have O5 : Hid (SL w5 w.heap.size v5 (entsTo ts i0 (j + 1))) := by rw [HX.out]; exact o5
           have B5 : Hid (Below w.heap.size w w5) := B4.out.trans (m5.only.toBelow B4.out.size (fun b hb e => by have := (O4.out.lt b e).1; omega))
           clear o5 m5)
        | fail)
      have hm1 := HM.out
      exact ⟨⟨j + 1, m + 1, by omega, by go_num, by show _ = _; omega, O5.out, B5.out⟩, by simp [intOf]; omega⟩
    · obtain rfl : j = 3 := by omega
      have hm1 := HM.out
      have h3 := HE3.out
      have hbi := HBI.out
      have q1 : ¬ (m : Int) < 3 * bi := by omega
      have HO2 : Hid (SL wr w.heap.size u5 (Pl.ents ts i0)) := by rw [← entsTo_three]; exact HO.out
      clear HO hm1 h3 hbi
      go_wp2_with fail
      go_ret
      exact ⟨_, rfl, HO2.out, HB.out⟩
end Go.Proofs.YtljmklohgpaopaaGreatDoor
