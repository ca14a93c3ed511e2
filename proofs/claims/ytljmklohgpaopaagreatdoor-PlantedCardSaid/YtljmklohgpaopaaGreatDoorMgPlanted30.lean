/- The harness over a tree: opens, the walk. Laws over any program: as Ord's; the operation that ends what holds may wait for the load through another one. The harness over a tree: the pieces of its steps. The harness over a tree: a death. -/
import Derived.Test.YtljmklohgpaopaaGreatDoorMgPlanted29
import Derived.Test.YtljmklohgpaopaaGreatDoorMgPlanted6
set_option linter.unusedVariables false
set_option linter.unusedSimpArgs false

namespace Go.Proofs.YtljmklohgpaopaaGreatDoor
open Go.RowKit
set_option linter.unusedSectionVars false
variable [Inhabited LoT]

theorem perr_only {w : World} {be : Nat} {a b c : Value} (h : Blk w be 28 [a, b, c]) (x0 x1 x2 : Value) : Only (· = be) w (((w.setCell ⟨be, 0, none⟩ x0).setCell ⟨be, 1, none⟩ x1).setCell ⟨be, 2, none⟩ x2) ∧ Blk (((w.setCell ⟨be, 0, none⟩ x0).setCell ⟨be, 1, none⟩ x1).setCell ⟨be, 2, none⟩ x2) be 28 [x0, x1, x2] :=
  ⟨(((Only.refl (· = be) w).setCell (p := ⟨be, 0, none⟩) (.inl rfl) x0).setCell (p := ⟨be, 1, none⟩) (.inl rfl) x1).setCell (p := ⟨be, 2, none⟩) (.inl rfl) x2, h.set3 _ _ _⟩
theorem HFr.of_err {w w' : World} {be : Nat} {a b c : Value} (h : Blk w be 28 [a, b, c]) (ha : plainV a = false) (hlo : LO ≤ be) (ho : Only (· = be) w w') : HFr w w' :=
  ⟨fun _ _ hb => ho.blk_ (one_kinds h) hb (by decide), fun _ _ hk => hk.only ho (one_kinds h) (by decide), Gk.of1 h ha hlo ho⟩
set_option maxRecDepth 100000 in
set_option maxHeartbeats 8000000 in
theorem popens_any {k gx g gT n : Nat} {vn vs vx vD : Value} {d : Pl.Dk} {rd : Int} {b : Bool} {now safe next : List Pl.Pr} {sv : Bool} {w : World} (raw : List Int) (A : Option Addr) (cap : Nat) (hm : PHm gx g gT n vn vs vx now safe next sv b w) (hp : PTree k gT g n vD d rd b now safe next sv w) (hsv : b = false → sv = false) (hn : 16 ≤ n ∧ n ≤ 4096)
    (hls : safe.length ≤ 4400) (hlx : next.length ≤ 4400) (hR : Raw raw) (hRl : raw.length ≤ 4096) (hA : Src w A (iv raw)) (hAf : ∀ p, A = some p → ¬ dF g vD p.block ∧ p.block < w.heap.size) (hev : EvAt w) (hge : GE w) (hlo : LO ≤ w.heap.size) (hgx : LO ≤ gx) :
    Calls Tryz.prog 32 #[.pointer (some ⟨gx, 0, none⟩), .slice A raw.length cap] w fun e w' => e = .returned (.bool true) ∧ ∃ (g' gT' : Nat) (vD' vn' vs' : Value) (d' : Pl.Dk) (rd' : Int) (l : List Pl.Pr), PHm gx g' gT' n vn' vs' vx l l next false false w' ∧ PTree k gT' g' n vD' d' rd' false l l next false w' ∧ (l = safe ∨ l = next) ∧ Gk w w' := by
  obtain ⟨As, caps, rfl, _⟩ := id hm.ks
  obtain ⟨Ax, capx, rfl, _⟩ := id hm.kx
  have hopn : ∀ raw, Opn (d.crash raw) n (k + 2) safe ∨ (sv = true ∧ Opn (d.crash raw) n (k + 2) next) := by
    cases b with
    | false => exact fun raw => .inl ((hp.good rfl).opn hp.fins hp.len (by omega) raw)
    | true => exact (hp.dead rfl).2.2
  obtain ⟨f1, f2, f3, f4, _⟩ := Pl.fins_crash hp.fins raw
  have hopn1 := hopn raw
  have HCR := Lib.hid (crash_any g vD d rd A cap raw w hp.disk hR hRl hA hAf)
  obtain ⟨d1, hd1⟩ : ∃ x, d.crash raw = x := ⟨_, rfl⟩
  rw [hd1] at f1 f2 f3 f4 hopn1 HCR
  obtain ⟨l, hl, hO⟩ : ∃ l, (l = safe ∨ (sv = true ∧ l = next)) ∧ Opn d1 n (k + 2) l := by
    rcases hopn1 with h | ⟨h1, h2⟩
    · exact ⟨_, .inl rfl, h⟩
    · exact ⟨_, .inr ⟨h1, rfl⟩, h2⟩
  have hll : l.length ≤ 4400 := by rcases hl with rfl | ⟨_, rfl⟩ <;> assumption
  have hlen : d1.secs.length = n := by rw [f3]; exact hp.len
  have HK1 := Lib.hid hp.disk.kinds
  have HFR1 : Hid (∀ w1, Only (dF g vD) w w1 → HFr w w1) := fun w1 ho1 => ⟨fun _ _ hb => ho1.blk_ HK1.out hb (by decide), fun _ _ hk => hk.only ho1 HK1.out (by decide), Gk.of_disk hp.disk (by rw [hp.len]; omega) hp.low ho1⟩
  have HM := Lib.hid hm
  have HEG := Lib.hid (And.intro hev (And.intro hge (And.intro hlo hgx)))
  have HD1 := Lib.hid (And.intro f1 (And.intro f2 (And.intro hlen f4)))
  have HO := Lib.hid hO
  have HL := Lib.hid hl
  have HLEN := Lib.hid (And.intro hll (And.intro hls (And.intro hlx hn)))
  obtain ⟨x0, x1, x2, x3, x4, x5, x6, x7, xf⟩ := facts8 hm.blk
  clear hm hp hls hlx hR hRl hA hAf hev hge hlo hgx hopn hopn1 f1 f2 f3 f4 hd1 hO hl hll hlen
  go_enter Tryz.func32, Tryz.ntmps32
  go_wp2_with fail
  refine HCR.out.mono ?_
  rintro e w1 ⟨rfl, hd1, ho1⟩
  have hf1 := HFR1.out w1 ho1
  have HM1 := Lib.hid (HM.out.hfr hf1)
  have HF1 := Lib.hid hf1
  have HCP := Lib.hid (copy_any g vD d1 rd w1 hd1)
  have HLO1 : Hid (LO ≤ w1.heap.size) := Nat.le_trans HEG.out.2.2.1 ho1.size
  clear x0 x1 x2 x3 x4 x5 x6 x7 xf hd1 ho1 hf1
  obtain ⟨x0, x1, x2, x3, x4, x5, x6, x7, xf⟩ := facts8 HM1.out.blk
  go_wp2_with fail
  refine HCP.out.mono ?_
  rintro e w2 ⟨g2, v2, rfl, hd2, hb2, hfar⟩
  have HM2 := Lib.hid (HM1.out.below hb2)
  clear x0 x1 x2 x3 x4 x5 x6 x7 xf
  obtain ⟨x0, x1, x2, x3, x4, x5, x6, x7, xf⟩ := facts8 HM2.out.blk
  obtain ⟨w3, hw3⟩ : ∃ x, w2.setCell ⟨gx, 0, none⟩ (.pointer (some ⟨g2, 0, none⟩)) = x := ⟨_, rfl⟩
  have ho3 : Only (· = gx) w2 w3 := by rw [← hw3]; exact (Only.refl (· = gx) w2).setCell (p := ⟨gx, 0, none⟩) (.inl rfl) _
  have hbk3 : Blk w3 gx 78 (plCells g2 gT n vn (.slice As safe.length caps) (.slice Ax next.length capx) sv b) := by rw [← hw3]; exact HM2.out.blk.set_ 0 _
  have hkp := HFr.kp1 HM2.out.blk ho3
  have HM3 : Hid (PHm gx g2 gT n vn (.slice As safe.length caps) (.slice Ax next.length capx) now safe next sv b w3) := ⟨hbk3, hkp _ _ HM2.out.kn, hkp _ _ HM2.out.ks, hkp _ _ HM2.out.kx⟩
  have hg3 : Gk w w3 := (HF1.out.gk.trans (Gk.of_below hb2)).trans (Gk.of1 HM2.out.blk rfl HEG.out.2.2.2 ho3)
  have hd3 : DiskAt w3 g2 v2 d1 rd := hd2.only_ ho3 (one_kinds HM2.out.blk) (by decide) (by decide)
  have hlow3 : ∀ q, dF g2 v2 q → LO ≤ q := fun q hq => Nat.le_trans HLO1.out (hfar q hq)
  have hlo3 : LO ≤ w3.heap.size := Nat.le_trans HLO1.out (Nat.le_trans hb2.size ho3.size)
  have HOPN : Hid (∀ W, Below w3.heap.size w3 W → Calls Tryz.prog 19 #[.pointer (some ⟨g2, 0, none⟩), .int .i64 0, .int .i64 (n : Nat)] W fun e w' => ∃ (gT2 : Nat) (rd2 : Int), e = .returned (.tuple #[.pointer (some ⟨gT2, 0, none⟩), errA 0 ⟨#[]⟩]) ∧ PTree k gT2 g2 n v2 d1 rd2 false l l next sv w' ∧ HFr W w' ∧ Only (· = g2) W w') :=
    fun W hW => pt_open (hd3.below hW) HD1.out.1 HD1.out.2.1 HD1.out.2.2.1 hlow3 (by rw [HD1.out.2.2.2]; decide) HO.out (Nat.le_refl _) HLEN.out.2.2.2 (by have := HLEN.out.1; omega) next sv ((Gk.of_below hW).1 (hg3.1 HEG.out.1)) ((Gk.of_below hW).2.1 (hg3.2.1 HEG.out.2.1)) (Nat.le_trans hlo3 hW.size)
  have HG3 := Lib.hid hg3
  have HLO3 := Lib.hid hlo3
  have HLT : Hid (g2 < w3.heap.size) := by obtain ⟨_, _, hb⟩ := hd3.blk; exact hb.lt
  clear ho3 hkp hg3 hd3 hlow3 hlo3 hd2 hb2 hfar
  unfold errA at HOPN
  go_upto_region 3 with fail
  go_cut [5, 6] from 24 (fun s5 s6 wx => ∃ (gT2 be : Nat) (rd2 : Int), s5 = .pointer (some ⟨gT2, 0, none⟩) ∧ s6 = .pointer (some ⟨be, 0, none⟩) ∧ Hid (Blk wx be 28 [.int .i64 0, .string ⟨#[]⟩, .bool true]) ∧ Hid (PTree k gT2 g2 n v2 d1 rd2 false l l next sv wx) ∧ Hid (HFr w3 wx))
  case first =>
    have D0 : Hid (w3.cell? ⟨gx, 0, none⟩ = some (.pointer (some ⟨g2, 0, none⟩)) ∧ w3.cell? ⟨gx, 2, none⟩ = some (.int .i64 (n : Nat))) := ⟨HM3.out.blk.cell 0, HM3.out.blk.cell 2⟩
    refine wp_region_L 14 (fun _ => True) (fun W => W.cell? ⟨gx, 0, none⟩ = some (.pointer (some ⟨g2, 0, none⟩)) ∧ W.cell? ⟨gx, 2, none⟩ = some (.int .i64 (n : Nat))) (by kernel_rfl) trivial D0.out (fun hTill => ?_)
    refine wpL_take' (i := 0) (oi := _) (v := ?_) rfl (by kernel_rfl) (by kernel_rfl) (by kernel_rfl) (by kernel_rfl) (fun _ _ _ h => h) (.inl ⟨by rfl, ?_⟩) (by assumption) ?_
    rotate_left
    · intro W hSw
      (try dsimp only at hSw)
      go_simp
      (try rfl)
    (try simp only [Act.put, List.getElem_toArray, List.getElem_cons_succ, List.getElem_cons_zero, List.setIfInBounds_toArray, List.set_cons_zero, List.set_cons_succ])
    refine wpL_take' (i := 1) (oi := _) (v := ?_) rfl (by kernel_rfl) (by kernel_rfl) (by kernel_rfl) (by kernel_rfl) (fun _ _ _ h => h) (.inl ⟨by rfl, ?_⟩) (by assumption) ?_
    rotate_left
    · intro W hSw
      (try dsimp only at hSw)
      go_simp
      (try rfl)
    (try simp only [Act.put, List.getElem_toArray, List.getElem_cons_succ, List.getElem_cons_zero, List.setIfInBounds_toArray, List.set_cons_zero, List.set_cons_succ])
    refine wpL_take' (i := 2) (oi := _) (v := ?_) rfl (by kernel_rfl) (by kernel_rfl) (by kernel_rfl) (by kernel_rfl) (fun _ _ _ h => h) (.inl ⟨by rfl, ?_⟩) (by assumption) ?_
    rotate_left
    · intro W hSw
      (try dsimp only at hSw)
      go_simp
      (try rfl)
    (try simp only [Act.put, List.getElem_toArray, List.getElem_cons_succ, List.getElem_cons_zero, List.setIfInBounds_toArray, List.set_cons_zero, List.set_cons_succ])
    refine wpL_take' (i := 3) (oi := _) (v := ?_) rfl (by kernel_rfl) (by kernel_rfl) (by kernel_rfl) (by kernel_rfl) (fun _ _ _ h => h) (.inl ⟨by rfl, ?_⟩) (by assumption) ?_
    rotate_left
    · intro W hSw
      (try dsimp only at hSw)
      go_simp
      (try rfl)
    (try simp only [Act.put, List.getElem_toArray, List.getElem_cons_succ, List.getElem_cons_zero, List.setIfInBounds_toArray, List.set_cons_zero, List.set_cons_succ])
    refine wpL_take' (i := 4) (oi := _) (v := ?_) rfl (by kernel_rfl) (by kernel_rfl) (by kernel_rfl) (by kernel_rfl) (fun _ _ _ h => h) (.inl ⟨by rfl, ?_⟩) (by assumption) ?_
    rotate_left
    · intro W hSw
      (try dsimp only at hSw)
      go_simp
      (try rfl)
    (try simp only [Act.put, List.getElem_toArray, List.getElem_cons_succ, List.getElem_cons_zero, List.setIfInBounds_toArray, List.set_cons_zero, List.set_cons_succ])
    refine wpL_take' (i := 5) (oi := _) (v := ?_) rfl (by kernel_rfl) (by kernel_rfl) (by kernel_rfl) (by kernel_rfl) (fun _ _ _ h => h) (.inl ⟨by rfl, ?_⟩) (by assumption) ?_
    rotate_left
    · intro W hSw
      (try dsimp only at hSw)
      go_simp
      (try rfl)
    (try simp only [Act.put, List.getElem_toArray, List.getElem_cons_succ, List.getElem_cons_zero, List.setIfInBounds_toArray, List.set_cons_zero, List.set_cons_succ])
    refine wpL_take' (i := 6) (oi := _) (v := ?_) rfl (by kernel_rfl) (by kernel_rfl) (by kernel_rfl) (by kernel_rfl) (fun _ _ _ h => h) (.inl ⟨by rfl, ?_⟩) (by assumption) ?_
    rotate_left
    · intro W hSw
      (try dsimp only at hSw)
      go_simp
      (try rfl)
    (try simp only [Act.put, List.getElem_toArray, List.getElem_cons_succ, List.getElem_cons_zero, List.setIfInBounds_toArray, List.set_cons_zero, List.set_cons_succ])
    refine wpL_take' (i := 7) (oi := _) (v := ?_) rfl (by kernel_rfl) (by kernel_rfl) (by kernel_rfl) (by kernel_rfl) (fun _ _ _ h => h) (.inl ⟨by rfl, ?_⟩) (by assumption) ?_
    rotate_left
    · intro W hSw
      (try dsimp only at hSw)
      go_simp
      (try rfl)
    (try simp only [Act.put, List.getElem_toArray, List.getElem_cons_succ, List.getElem_cons_zero, List.setIfInBounds_toArray, List.set_cons_zero, List.set_cons_succ])
    refine wpL_ready (rs := [8, 12]) (by kernel_rfl) (by simp) ?_
    refine AllL.cons (o := _) rfl (fun K hK => ?_) (AllL.cons (o := _) rfl (fun K hK => ?_) AllL.nil)
    · go_simp
      refine (HOPN.out w3.drew ((Below.refl w3.heap.size w3).drew)).mono ?_
      rintro e w4 ⟨gT2, rd2, rfl, hpt, hfr, _⟩
      have HPT := Lib.hid hpt
      have HFR : Hid (HFr w3 w4) := (HFr.of_below ((Below.refl w3.heap.size w3).drew)).trans hfr
      have D1 : Hid (w4.cell? ⟨gx, 0, none⟩ = some (.pointer (some ⟨g2, 0, none⟩)) ∧ w4.cell? ⟨gx, 2, none⟩ = some (.int .i64 (n : Nat))) := ⟨(HM3.out.hfr HFR.out).blk.cell 0, (HM3.out.hfr HFR.out).blk.cell 2⟩
      clear hpt hfr
      go_wp2_with fail
      refine hK.out _ _ ⟨fun _ => trivial, D1.out⟩ (fun hTill => ?_)
      clear hK K
      (try simp only [Act.put, List.getElem_toArray, List.getElem_cons_succ, List.getElem_cons_zero, List.setIfInBounds_toArray, List.set_cons_zero, List.set_cons_succ])
      refine wpL_take' (i := 9) (oi := _) (v := ?_) rfl (by kernel_rfl) (by kernel_rfl) (by kernel_rfl) (by kernel_rfl) (fun _ _ _ h => h) (.inl ⟨by rfl, ?_⟩) (by assumption) ?_
      rotate_left
      · intro W hSw
        (try dsimp only at hSw)
        go_simp
        (try rfl)
      (try simp only [Act.put, List.getElem_toArray, List.getElem_cons_succ, List.getElem_cons_zero, List.setIfInBounds_toArray, List.set_cons_zero, List.set_cons_succ])
      refine wpL_take' (i := 10) (oi := _) (v := ?_) rfl (by kernel_rfl) (by kernel_rfl) (by kernel_rfl) (by kernel_rfl) (fun _ _ _ h => h) (.inl ⟨by rfl, ?_⟩) (by assumption) ?_
      rotate_left
      · intro W hSw
        (try dsimp only at hSw)
        go_simp
        (try rfl)
      (try simp only [Act.put, List.getElem_toArray, List.getElem_cons_succ, List.getElem_cons_zero, List.setIfInBounds_toArray, List.set_cons_zero, List.set_cons_succ])
      refine wpL_take' (i := 11) (oi := _) (v := ?_) rfl (by kernel_rfl) (by kernel_rfl) (by kernel_rfl) (by kernel_rfl) (fun _ _ _ h => h) (.inl ⟨by rfl, ?_⟩) (by assumption) ?_
      rotate_left
      · intro W hSw
        (try dsimp only at hSw)
        go_simp
        (try rfl)
      (try simp only [Act.put, List.getElem_toArray, List.getElem_cons_succ, List.getElem_cons_zero, List.setIfInBounds_toArray, List.set_cons_zero, List.set_cons_succ])
      obtain ⟨w5, hw5⟩ : ∃ W, World.alloc w4 (.cells #[.int .i64 0, .string ⟨#[]⟩, .bool false] 28) = W := ⟨_, rfl⟩
      obtain ⟨be, hbe⟩ : ∃ g, Array.size (World.heap w4) = g := ⟨_, rfl⟩
      have hb5 : Below w4.heap.size w4 w5 := by rw [← hw5]; exact (Below.refl _ _).alloc (Nat.le_refl _) _
      have BE : Hid (Blk w5 be 28 [.int .i64 0, .string ⟨#[]⟩, .bool false]) := by rw [Hid, ← hw5, ← hbe]; exact Blk.new w4 28 _
      have D2 : Hid (w5.cell? ⟨gx, 0, none⟩ = some (.pointer (some ⟨g2, 0, none⟩)) ∧ w5.cell? ⟨gx, 2, none⟩ = some (.int .i64 (n : Nat))) := ⟨((HM3.out.hfr HFR.out).below hb5).blk.cell 0, ((HM3.out.hfr HFR.out).below hb5).blk.cell 2⟩
      have HB5 := Lib.hid hb5
      clear hb5
      refine wpL_ready (rs := [12]) (by kernel_rfl) (by simp) ?_
      refine AllL.cons (o := _) rfl (fun K hK => ?_) AllL.nil
      go_simp
      (try rw [hw5])
      (try rw [hbe])
      refine hK.out _ _ ⟨fun _ => trivial, D2.out⟩ (fun hTill => ?_)
      clear hK K
      (try simp only [Act.put, List.getElem_toArray, List.getElem_cons_succ, List.getElem_cons_zero, List.setIfInBounds_toArray, List.set_cons_zero, List.set_cons_succ])
      refine wpL_take' (i := 13) (oi := _) (v := ?_) rfl (by kernel_rfl) (by kernel_rfl) (by kernel_rfl) (by kernel_rfl) (fun _ _ _ h => h) (.inl ⟨by rfl, ?_⟩) (by assumption) ?_
      rotate_left
      · intro W hSw
        (try dsimp only at hSw)
        go_simp
        (try rfl)
      (try simp only [Act.put, List.getElem_toArray, List.getElem_cons_succ, List.getElem_cons_zero, List.setIfInBounds_toArray, List.set_cons_zero, List.set_cons_succ])
      obtain ⟨y0, y1, y2, z0, z1, z2⟩ := facts3 BE.out
      have D3 : Hid (∀ a b c, World.cell? (((w5.setCell ⟨be, 0, none⟩ a).setCell ⟨be, 1, none⟩ b).setCell ⟨be, 2, none⟩ c) ⟨gx, 0, none⟩ = some (.pointer (some ⟨g2, 0, none⟩)) ∧ World.cell? (((w5.setCell ⟨be, 0, none⟩ a).setCell ⟨be, 1, none⟩ b).setCell ⟨be, 2, none⟩ c) ⟨gx, 2, none⟩ = some (.int .i64 (n : Nat))) := fun a b c => by
        have hx := (perr_only BE.out a b c).1.blk_ (one_kinds BE.out) ((HM3.out.hfr HFR.out).below HB5.out).blk (by decide)
        exact ⟨hx.cell 0, hx.cell 2⟩
      refine wpL_ready (rs := [14]) (by kernel_rfl) (by simp) ?_
      refine AllL.cons (o := _) rfl (fun K hK => ?_) AllL.nil
      go_simp
      refine hK.out _ _ ⟨fun _ => trivial, D3.out _ _ _⟩ (fun hTill => ?_)
      clear hK K
      (try simp only [Act.put, List.getElem_toArray, List.getElem_cons_succ, List.getElem_cons_zero, List.setIfInBounds_toArray, List.set_cons_zero, List.set_cons_succ])
      refine wpL_done (by kernel_rfl) ?_ _
      clear hTill
      go_wp2_with fail
      go_meet
      case rel =>
        obtain ⟨hoe, hbe2⟩ := perr_only BE.out (.int .i64 0) (.string ⟨#[]⟩) (.bool true)
        have hlt : w4.heap.size ≤ be := by rw [← hbe]; exact Nat.le_refl _
        refine ⟨gT2, be, rd2, rfl, rfl, hbe2, (HPT.out.below HB5.out).only hoe (one_kinds BE.out) (by decide) (by decide) (by decide) (by decide) (by decide), (HFR.out.trans (.of_below HB5.out)).trans (.of_err BE.out rfl (Nat.le_trans HLO3.out (Nat.le_trans HFR.out.gk.2.2.size hlt)) hoe)⟩
    · obtain ⟨w4, hw4⟩ : ∃ W, World.alloc w3.drew (.cells #[.int .i64 0, .string ⟨#[]⟩, .bool false] 28) = W := ⟨_, rfl⟩
      obtain ⟨be, hbe⟩ : ∃ g, Array.size (World.heap w3.drew) = g := ⟨_, rfl⟩
      have hb4 : Below w3.heap.size w3 w4 := by rw [← hw4]; exact ((Below.refl w3.heap.size w3).drew).alloc (Nat.le_refl _) _
      have BE : Hid (Blk w4 be 28 [.int .i64 0, .string ⟨#[]⟩, .bool false]) := by rw [Hid, ← hw4, ← hbe]; exact Blk.new w3.drew 28 _
      have D2 : Hid (w4.cell? ⟨gx, 0, none⟩ = some (.pointer (some ⟨g2, 0, none⟩)) ∧ w4.cell? ⟨gx, 2, none⟩ = some (.int .i64 (n : Nat))) := ⟨(HM3.out.below hb4).blk.cell 0, (HM3.out.below hb4).blk.cell 2⟩
      have HB4 := Lib.hid hb4
      have HLTB : Hid (w3.heap.size ≤ be) := by rw [Hid, ← hbe]; exact Nat.le_refl _
      clear hb4
      go_simp
      (try rw [hw4])
      (try rw [hbe])
      refine hK.out _ _ ⟨fun _ => trivial, D2.out⟩ (fun hTill => ?_)
      clear hK K
      (try simp only [Act.put, List.getElem_toArray, List.getElem_cons_succ, List.getElem_cons_zero, List.setIfInBounds_toArray, List.set_cons_zero, List.set_cons_succ])
      refine wpL_ready (rs := [8]) (by kernel_rfl) (by simp) ?_
      refine AllL.cons (o := _) rfl (fun K hK => ?_) AllL.nil
      go_simp
      refine (HOPN.out w4 HB4.out).mono ?_
      rintro e w5 ⟨gT2, rd2, rfl, hpt, hfr, hon⟩
      have HPT := Lib.hid hpt
      have HFR : Hid (HFr w3 w5) := (HFr.of_below HB4.out).trans hfr
      have D1 : Hid (w5.cell? ⟨gx, 0, none⟩ = some (.pointer (some ⟨g2, 0, none⟩)) ∧ w5.cell? ⟨gx, 2, none⟩ = some (.int .i64 (n : Nat))) := ⟨(HM3.out.hfr HFR.out).blk.cell 0, (HM3.out.hfr HFR.out).blk.cell 2⟩
      have BE5 : Hid (Blk w5 be 28 [.int .i64 0, .string ⟨#[]⟩, .bool false]) := hon.blk BE.out (fun e => by have h1 := HLT.out; have h2 := HLTB.out; omega)
      clear hpt hfr hon
      go_wp2_with fail
      refine hK.out _ _ ⟨fun _ => trivial, D1.out⟩ (fun hTill => ?_)
      clear hK K
      (try simp only [Act.put, List.getElem_toArray, List.getElem_cons_succ, List.getElem_cons_zero, List.setIfInBounds_toArray, List.set_cons_zero, List.set_cons_succ])
      refine wpL_take' (i := 9) (oi := _) (v := ?_) rfl (by kernel_rfl) (by kernel_rfl) (by kernel_rfl) (by kernel_rfl) (fun _ _ _ h => h) (.inl ⟨by rfl, ?_⟩) (by assumption) ?_
      rotate_left
      · intro W hSw
        (try dsimp only at hSw)
        go_simp
        (try rfl)
      (try simp only [Act.put, List.getElem_toArray, List.getElem_cons_succ, List.getElem_cons_zero, List.setIfInBounds_toArray, List.set_cons_zero, List.set_cons_succ])
      refine wpL_take' (i := 10) (oi := _) (v := ?_) rfl (by kernel_rfl) (by kernel_rfl) (by kernel_rfl) (by kernel_rfl) (fun _ _ _ h => h) (.inl ⟨by rfl, ?_⟩) (by assumption) ?_
      rotate_left
      · intro W hSw
        (try dsimp only at hSw)
        go_simp
        (try rfl)
      (try simp only [Act.put, List.getElem_toArray, List.getElem_cons_succ, List.getElem_cons_zero, List.setIfInBounds_toArray, List.set_cons_zero, List.set_cons_succ])
      refine wpL_take' (i := 11) (oi := _) (v := ?_) rfl (by kernel_rfl) (by kernel_rfl) (by kernel_rfl) (by kernel_rfl) (fun _ _ _ h => h) (.inl ⟨by rfl, ?_⟩) (by assumption) ?_
      rotate_left
      · intro W hSw
        (try dsimp only at hSw)
        go_simp
        (try rfl)
      (try simp only [Act.put, List.getElem_toArray, List.getElem_cons_succ, List.getElem_cons_zero, List.setIfInBounds_toArray, List.set_cons_zero, List.set_cons_succ])
      refine wpL_take' (i := 13) (oi := _) (v := ?_) rfl (by kernel_rfl) (by kernel_rfl) (by kernel_rfl) (by kernel_rfl) (fun _ _ _ h => h) (.inl ⟨by rfl, ?_⟩) (by assumption) ?_
      rotate_left
      · intro W hSw
        (try dsimp only at hSw)
        go_simp
        (try rfl)
      (try simp only [Act.put, List.getElem_toArray, List.getElem_cons_succ, List.getElem_cons_zero, List.setIfInBounds_toArray, List.set_cons_zero, List.set_cons_succ])
      obtain ⟨y0, y1, y2, z0, z1, z2⟩ := facts3 BE5.out
      have D3 : Hid (∀ a b c, World.cell? (((w5.setCell ⟨be, 0, none⟩ a).setCell ⟨be, 1, none⟩ b).setCell ⟨be, 2, none⟩ c) ⟨gx, 0, none⟩ = some (.pointer (some ⟨g2, 0, none⟩)) ∧ World.cell? (((w5.setCell ⟨be, 0, none⟩ a).setCell ⟨be, 1, none⟩ b).setCell ⟨be, 2, none⟩ c) ⟨gx, 2, none⟩ = some (.int .i64 (n : Nat))) := fun a b c => by
        have hx := (perr_only BE5.out a b c).1.blk_ (one_kinds BE5.out) (HM3.out.hfr HFR.out).blk (by decide)
        exact ⟨hx.cell 0, hx.cell 2⟩
      refine wpL_ready (rs := [14]) (by kernel_rfl) (by simp) ?_
      refine AllL.cons (o := _) rfl (fun K hK => ?_) AllL.nil
      go_simp
      refine hK.out _ _ ⟨fun _ => trivial, D3.out _ _ _⟩ (fun hTill => ?_)
      clear hK K
      (try simp only [Act.put, List.getElem_toArray, List.getElem_cons_succ, List.getElem_cons_zero, List.setIfInBounds_toArray, List.set_cons_zero, List.set_cons_succ])
      refine wpL_done (by kernel_rfl) ?_ _
      clear hTill
      go_wp2_with fail
      go_meet
      case rel =>
        obtain ⟨hoe, hbe2⟩ := perr_only BE5.out (.int .i64 0) (.string ⟨#[]⟩) (.bool true)
        refine ⟨gT2, be, rd2, rfl, rfl, hbe2, HPT.out.only hoe (one_kinds BE5.out) (by decide) (by decide) (by decide) (by decide) (by decide), HFR.out.trans (.of_err BE5.out rfl (Nat.le_trans HLO3.out HLTB.out) hoe)⟩
  case rest =>
    obtain ⟨gT2, be, rd2, rfl, rfl, HBE, HPT, HFR⟩ := hcut
    obtain ⟨wx, hwx, HBE, HPT, HFR⟩ : ∃ x, x = wc ∧ Hid (Blk x be 28 [.int .i64 0, .string ⟨#[]⟩, .bool true]) ∧ Hid (PTree k gT2 g2 n v2 d1 rd2 false l l next sv x) ∧ Hid (HFr w3 x) := ⟨wc, rfl, HBE, HPT, HFR⟩
    subst hwx
    have HMX := Lib.hid (HM3.out.hfr HFR.out)
    obtain ⟨z0, z1, z2, _, _, _⟩ := facts3 HBE.out
    have q3 := fine_any 0 wx
    unfold errA at q3
    have Q3 := Lib.hid q3
    clear x0 x1 x2 x3 x4 x5 x6 x7 xf hbk3 q3 hw3
    go_wp2_with fail
    refine Q3.out.mono ?_
    rintro e w6 ⟨rfl, hb6⟩
    have HM6 := Lib.hid (HMX.out.below hb6)
    have HPT6 := Lib.hid (HPT.out.below hb6)
    have HG6 : Hid (Gk w w6) := (HG3.out.trans HFR.out.gk).trans (Gk.of_below hb6)
    clear z0 z1 z2 hb6
    obtain ⟨x0, x1, x2, x3, x4, x5, x6, x7, xf⟩ := facts8 HM6.out.blk
    obtain ⟨w7, hw7⟩ : ∃ x, (w6.setCell ⟨gx, 1, none⟩ (.pointer (some ⟨gT2, 0, none⟩))).setCell ⟨gx, 7, none⟩ (.bool false) = x := ⟨_, rfl⟩
    have ho7 : Only (· = gx) w6 w7 := by rw [← hw7]; exact ((Only.refl (· = gx) w6).setCell (p := ⟨gx, 1, none⟩) (.inl rfl) _).setCell (p := ⟨gx, 7, none⟩) (.inl rfl) _
    have hbk7 : Blk w7 gx 78 (plCells g2 gT2 n vn (.slice As safe.length caps) (.slice Ax next.length capx) sv false) := by rw [← hw7]; exact (HM6.out.blk.set_ 1 _).set_ 7 _
    have hkp := HFr.kp1 HM6.out.blk ho7
    have hk7 := one_kinds HM6.out.blk
    have HM7 : Hid (PHm gx g2 gT2 n vn (.slice As safe.length caps) (.slice Ax next.length capx) now safe next sv false w7) := ⟨hbk7, hkp _ _ HM6.out.kn, hkp _ _ HM6.out.ks, hkp _ _ HM6.out.kx⟩
    have HPT7 := Lib.hid (HPT6.out.only ho7 hk7 (by decide) (by decide) (by decide) (by decide) (by decide))
    have HG7 : Hid (Gk w w7) := HG6.out.trans (Gk.of1 HM6.out.blk rfl HEG.out.2.2.2 ho7)
    have HLF : Hid (d1.life ≠ 0) := by rw [Hid, HD1.out.2.2.2]; decide
    have HS1 := Lib.hid (pt_same HPT7.out HLF.out HLEN.out.2.2.2 (by have := HLEN.out.1; omega) safe _ HM7.out.ks (by have := HLEN.out.2.1; omega) (HG7.out.1 HEG.out.1) (HG7.out.2.1 HEG.out.2.1))
    obtain ⟨v0, v1, v3, v4, v5, v6, v7, v8, vf⟩ := facts8 hbk7
    clear ho7 hbk7 hkp hk7
    go_wp2_with fail
    refine HS1.out.mono ?_
    rintro e w8 ⟨b1, rd3, rfl, hb1, hpt8, hfr8⟩
    have HPT8 := Lib.hid hpt8
    have HM8 := Lib.hid (HM7.out.hfr hfr8)
    have HG8 : Hid (Gk w w8) := HG7.out.trans hfr8.gk
    have HB1 := Lib.hid hb1
    clear x0 x1 x2 x3 x4 x5 x6 x7 xf v0 v1 v3 v4 v5 v6 v7 v8 vf hw7 hpt8 hfr8 hb1
    obtain ⟨x0, x1, x2, x3, x4, x5, x6, x7, xf⟩ := facts8 HM8.out.blk
    cases sv with
    | false =>
      obtain rfl : l = safe := by rcases HL.out with h | ⟨h, _⟩; exact h; cases h
      obtain rfl : b1 = true := HB1.out.2 rfl
      go_wp2_with fail
      go_ret
      have ho9 : Only (· = gx) w8 ((w8.setCell ⟨gx, 6, none⟩ (.bool false)).setCell ⟨gx, 3, none⟩ (.slice As l.length caps)) := ((Only.refl (· = gx) w8).setCell (p := ⟨gx, 6, none⟩) (.inl rfl) _).setCell (p := ⟨gx, 3, none⟩) (.inl rfl) _
      have hkp := HFr.kp1 HM8.out.blk ho9
      exact ⟨rfl, g2, gT2, v2, _, _, d1, rd3, l, ⟨(HM8.out.blk.set_ 6 _).set_ 3 _, hkp _ _ HM8.out.ks, hkp _ _ HM8.out.ks, hkp _ _ HM8.out.kx⟩, HPT8.out.only ho9 (one_kinds HM8.out.blk) (by decide) (by decide) (by decide) (by decide) (by decide), .inl rfl, HG8.out.trans (Gk.of1 HM8.out.blk rfl HEG.out.2.2.2 ho9)⟩
    | true =>
      have HS2 := Lib.hid (pt_same HPT8.out HLF.out HLEN.out.2.2.2 (by have := HLEN.out.1; omega) next _ HM8.out.kx (by have := HLEN.out.2.2.1; omega) (HG8.out.1 HEG.out.1) (HG8.out.2.1 HEG.out.2.1))
      go_wp2_with fail
      refine HS2.out.mono ?_
      rintro e w9 ⟨b2, rd4, rfl, hb2, hpt9, hfr9⟩
      have HPT9 := Lib.hid hpt9
      have HM9 := Lib.hid (HM8.out.hfr hfr9)
      have HG9 : Hid (Gk w w9) := HG8.out.trans hfr9.gk
      have HB2 := Lib.hid hb2
      clear x0 x1 x2 x3 x4 x5 x6 x7 xf hpt9 hfr9 hb2
      obtain ⟨x0, x1, x2, x3, x4, x5, x6, x7, xf⟩ := facts8 HM9.out.blk
      cases b1 with
      | true =>
        obtain rfl : l = safe := HB1.out.1 rfl
        go_wp2_with fail
        go_ret
        have ho9 : Only (· = gx) w9 ((w9.setCell ⟨gx, 6, none⟩ (.bool false)).setCell ⟨gx, 3, none⟩ (.slice As l.length caps)) := ((Only.refl (· = gx) w9).setCell (p := ⟨gx, 6, none⟩) (.inl rfl) _).setCell (p := ⟨gx, 3, none⟩) (.inl rfl) _
        have hkp := HFr.kp1 HM9.out.blk ho9
        exact ⟨rfl, g2, gT2, v2, _, _, d1, rd4, l, ⟨(HM9.out.blk.set_ 6 _).set_ 3 _, hkp _ _ HM9.out.ks, hkp _ _ HM9.out.ks, hkp _ _ HM9.out.kx⟩, (HPT9.out.only ho9 (one_kinds HM9.out.blk) (by decide) (by decide) (by decide) (by decide) (by decide)).next, .inl rfl, HG9.out.trans (Gk.of1 HM9.out.blk rfl HEG.out.2.2.2 ho9)⟩
      | false =>
        obtain rfl : l = next := by
          rcases HL.out with h | ⟨_, h⟩
          · have := HB1.out.2 h; cases this
          · exact h
        obtain rfl : b2 = true := HB2.out.2 rfl
        go_wp2_with fail
        go_ret
        have ho9 : Only (· = gx) w9 (((w9.setCell ⟨gx, 4, none⟩ (.slice Ax l.length capx)).setCell ⟨gx, 6, none⟩ (.bool false)).setCell ⟨gx, 3, none⟩ (.slice Ax l.length capx)) := (((Only.refl (· = gx) w9).setCell (p := ⟨gx, 4, none⟩) (.inl rfl) _).setCell (p := ⟨gx, 6, none⟩) (.inl rfl) _).setCell (p := ⟨gx, 3, none⟩) (.inl rfl) _
        have hkp := HFr.kp1 HM9.out.blk ho9
        exact ⟨rfl, g2, gT2, v2, _, _, d1, rd4, l, ⟨((HM9.out.blk.set_ 4 _).set_ 6 _).set_ 3 _, hkp _ _ HM9.out.kx, hkp _ _ HM9.out.kx, hkp _ _ HM9.out.kx⟩, (HPT9.out.only ho9 (one_kinds HM9.out.blk) (by decide) (by decide) (by decide) (by decide) (by decide)).next, .inr rfl, HG9.out.trans (Gk.of1 HM9.out.blk rfl HEG.out.2.2.2 ho9)⟩
end Go.Proofs.YtljmklohgpaopaaGreatDoor

namespace Go.Proofs.YtljmklohgpaopaaGreatDoor
open Go

section
variable {P : Program} {ops : Array Oper} {Q : Exit → Act → World → Prop} {md : Region.Mode} {C D : World → Prop} {m : Nat}
theorem waits_listed {L : Array Bool} {k i : Nat} (hw : waits md ops k i = true) (hi : i ∈ Region.ready md ops L) (hk : k ∈ Region.ready md ops L) : False := by
  obtain ⟨_, ok, hok, hall⟩ := mem_ready.1 hk
  unfold waits at hw
  rw [hok] at hw
  obtain ⟨e, he, hb⟩ := Array.any_eq_true'.1 hw
  simp only [Bool.and_eq_true, beq_iff_eq] at hb
  have h1 := hall e he hb.1
  have h0 := (mem_ready.1 hi).1
  rw [hb.2] at h1
  rcases Nat.lt_or_ge i L.size with h' | h'
  · simp [h'] at h0 h1; rw [h0] at h1; cases h1
  · simp [Array.getElem?_eq_none h'] at h1
theorem waits_unlisted {L : Array Bool} {k i : Nat} (hw : waits md ops k i = true) (hi : L.getD i true = false) (hk : k ∈ Region.ready md ops L) : False := by
  obtain ⟨_, ok, hok, hall⟩ := mem_ready.1 hk
  unfold waits at hw
  rw [hok] at hw
  obtain ⟨e, he, hb⟩ := Array.any_eq_true'.1 hw
  simp only [Bool.and_eq_true, beq_iff_eq] at hb
  have h1 := hall e he hb.1
  rw [hb.2] at h1
  rcases Nat.lt_or_ge i L.size with h' | h'
  · simp [h'] at hi h1; rw [hi] at h1; cases h1
  · simp [Array.getElem?_eq_none h'] at h1
theorem wpL_take2 (k : Nat) {i : Nat} {oi : Oper} {v : Value} {fuel : Nat} {listed : Array Bool} {a : Act} {w : World} (hi : ops[i]? = some oi)
    (hs : Region.noSelect ops = true) (hf : Region.free md ops listed i = true) (hr : (Region.ready md ops listed).contains i = true)
    (hw : (waits md ops k i && waits md ops m k && !(m == i) && !(k == i) && !(listed.getD m true) && !(listed.getD k true)) = true)
    (hQ : ∀ c a w, Q (.panic c) (a.put oi.dst v) w → Q (.panic c) a w) (hy : YieldsIf P ops (fun w => C w ∧ D w) oi v a) (hS : Till m C D listed w)
    (h : wpL P md ops Q (Till m C D) fuel (listed.setIfInBounds i true) (a.put oi.dst v) w) : wpL P md ops Q (Till m C D) (fuel + 1) listed a w := by
  simp only [Bool.and_eq_true, Bool.not_eq_true', beq_eq_false_iff_ne, ne_eq] at hw
  obtain ⟨⟨⟨⟨⟨hki, hmk⟩, hmi⟩, hkn⟩, hum⟩, huk⟩ := hw
  refine wpL_first hi (Region.noSelect_spec hs) hQ (fun L => L.getD m true = false ∧ L.getD k true = false) ?_ (fun L w => ?_) _ (fun L w hL hs => ⟨hs.1 hL.1, hs.2⟩) fuel listed a w ⟨hum, huk⟩ (Region.free_spec hi hf) (by simpa using hr) hy hS h
  · intro L j hL hiL hj hji
    refine ⟨?_, ?_⟩
    · by_cases hjm : j = m
      · subst hjm
        exact (waits_unlisted hmk hL.2 hj).elim
      · rw [getD_set_ne true hjm]; exact hL.1
    · by_cases hjk : j = k
      · subst hjk
        exact (waits_listed hki hiL hj).elim
      · rw [getD_set_ne true hjk]; exact hL.2
  · unfold Till
    rw [getD_set_ne true (fun e => hmi e.symm)]
end
end Go.Proofs.YtljmklohgpaopaaGreatDoor

namespace Go.Proofs.YtljmklohgpaopaaGreatDoor
open Go.RowKit
set_option linter.unusedSectionVars false
variable [Inhabited LoT]

/-- The disk is to die. -/
theorem PTree.die {k gT g n : Nat} {vD : Value} {d : Pl.Dk} {rd : Int} {tb : Bool} {now safe next : List Pl.Pr} {sv : Bool} {w w' : World} (hp : PTree k gT g n vD d rd tb now safe next sv w) (hn : 2 ≤ n) (x : Int) (hd : DiskAt w' g vD (d.die x) rd) (ho : Only (dF g vD) w w') : PTree k gT g n vD (d.die x) rd tb now safe next sv w' ∧ HFr w w' := by
  have hk := hp.disk.kinds
  have hfr : HFr w w' := ⟨fun _ _ hb => ho.blk_ hk hb (by decide), fun _ _ h => h.only ho hk (by decide), Gk.of_disk hp.disk (by rw [hp.len]; omega) hp.low ho⟩
  obtain ⟨L, hL, hL0⟩ : ∃ L, d.die x = ⟨d.secs, L⟩ ∧ (d.life = 0 → d.die x = d) := by
    unfold Pl.Dk.die
    split
    · exact ⟨d.life, rfl, fun _ => rfl⟩
    · rename_i h0
      exact ⟨_, rfl, fun h => absurd h h0⟩
  refine ⟨⟨hd, by rw [hL]; exact hp.fins, by rw [hL]; exact hp.len, hp.low, fun e => ?_, fun e => ?_⟩, hfr⟩
  · rw [hL] at hd ⊢
    obtain ⟨seq, p, r, r0, fr, hs, h, s, ts, t, G, g1, g2, g3, g4, g5, g6, g7, g8, g9, g10, g11, g12, g13⟩ := hp.good e
    have hw : TW (((opEnv gT g 0 n vD d seq p r0 hs s).to r).at_ d (Pl.secsOf hs s)) w rd G := g1
    refine ⟨seq, p, r, r0, fr, hs, h, s, ts, t, G, hw.dk hd ho (fun _ _ => rfl) rfl, g2, g3, g4, g5.only ho hk (by decide) (by decide), g6, ?_, g8, g9, g10, g11.look (fun _ _ => rfl), fun j hj => g12 j hj, g13⟩
    rcases g7 with h7 | ⟨rs, hs', ts', ss, v, a1, a2, a3, a4, a5, a6, a7, a8⟩
    · exact .inl h7
    · exact .inr ⟨rs, hs', ts', ss, v, a1, a2, a3, a4, ho.blk_ hk a5 (by decide), a6, a7, a8⟩
  · obtain ⟨⟨m, h1, h2⟩, h3, h4⟩ := hp.dead e
    rw [hL0 h3]
    exact ⟨⟨m, ho.blk_ hk h1 (by decide), h2⟩, h3, h4⟩
theorem PGood.srt {k gT g n : Nat} {vD : Value} {d : Pl.Dk} {rd : Int} {now safe : List Pl.Pr} {w : World} (h : PGood k gT g n vD d rd now safe w) : Pl.Srt now := by
  obtain ⟨seq, p, r, r0, fr, hs, h, s, ts, t, G, g1, g2, g3, rfl, _⟩ := h
  exact g3.srt
/-- What stands from step to step. -/
def PSt (k gx n : Nat) (w : World) : Prop :=
  ∃ (g gT : Nat) (vn vs vx vD : Value) (d : Pl.Dk) (rd : Int) (b : Bool) (now safe next : List Pl.Pr) (sv : Bool), PHm gx g gT n vn vs vx now safe next sv b w ∧ PTree k gT g n vD d rd b now safe next sv w ∧ (b = false → sv = false) ∧ now.length ≤ k ∧ safe.length ≤ k ∧ next.length ≤ k
def PAct (k gx n : Nat) (w : World) (e : Ending) (w' : World) : Prop := e = .returned (.bool true) ∧ PSt (k + 1) gx n w' ∧ Gk w w'
theorem PHm.setNow {gx g gT n : Nat} {vn vs vx vn2 : Value} {now safe next now2 : List Pl.Pr} {sv b : Bool} {w : World} (h : PHm gx g gT n vn vs vx now safe next sv b w) (hk : KpAt w vn2 now2) (hlo : LO ≤ gx) : PHm gx g gT n vn2 vs vx now2 safe next sv b (w.setCell ⟨gx, 3, none⟩ vn2) ∧ Only (· = gx) w (w.setCell ⟨gx, 3, none⟩ vn2) ∧ Gk w (w.setCell ⟨gx, 3, none⟩ vn2) := by
  have ho : Only (· = gx) w (w.setCell ⟨gx, 3, none⟩ vn2) := (Only.refl (· = gx) w).setCell (p := ⟨gx, 3, none⟩) (.inl rfl) _
  have hkp := HFr.kp1 h.blk ho
  exact ⟨⟨h.blk.set_ 3 _, hkp _ _ hk, hkp _ _ h.ks, hkp _ _ h.kx⟩, ho, Gk.of1 h.blk rfl hlo ho⟩
theorem PHm.setBad {gx g gT n : Nat} {vn vs vx : Value} {now safe next : List Pl.Pr} {sv b : Bool} {w : World} (h : PHm gx g gT n vn vs vx now safe next sv b w) (b' : Bool) (hlo : LO ≤ gx) : PHm gx g gT n vn vs vx now safe next sv b' (w.setCell ⟨gx, 7, none⟩ (.bool b')) ∧ Only (· = gx) w (w.setCell ⟨gx, 7, none⟩ (.bool b')) ∧ Gk w (w.setCell ⟨gx, 7, none⟩ (.bool b')) := by
  have ho : Only (· = gx) w (w.setCell ⟨gx, 7, none⟩ (.bool b')) := (Only.refl (· = gx) w).setCell (p := ⟨gx, 7, none⟩) (.inl rfl) _
  have hkp := HFr.kp1 h.blk ho
  exact ⟨⟨h.blk.set_ 7 _, hkp _ _ h.kn, hkp _ _ h.ks, hkp _ _ h.kx⟩, ho, Gk.of1 h.blk rfl hlo ho⟩
theorem PTree.gx {k gx gT g n : Nat} {cs : List Value} {vD : Value} {d : Pl.Dk} {rd : Int} {tb : Bool} {now safe next : List Pl.Pr} {sv : Bool} {w w' : World} (hp : PTree k gT g n vD d rd tb now safe next sv w) (hb : Blk w gx 78 cs) (ho : Only (· = gx) w w') : PTree k gT g n vD d rd tb now safe next sv w' :=
  hp.only ho (one_kinds hb) (by decide) (by decide) (by decide) (by decide) (by decide)
theorem PTree.any {k gT g n : Nat} {vD : Value} {d : Pl.Dk} {rd : Int} {now now' safe next : List Pl.Pr} {sv : Bool} {w : World} (hp : PTree k gT g n vD d rd true now safe next sv w) : PTree k gT g n vD d rd true now' safe next sv w := ⟨hp.disk, hp.fins, hp.len, hp.low, (fun e => by cases e), hp.dead⟩
/-- changed, after Put or Take. -/
theorem pchanged_any {k gx gT g n kd : Nat} {vn vs vx vD : Value} {d : Pl.Dk} {rd : Int} {b tb : Bool} {now now' safe next l2 : List Pl.Pr} {sv : Bool} {w : World} {A : Option Addr} {m cap : Nat} (hm : PHm gx g gT n vn vs vx now safe next sv b w) (hp : PTree k gT g n vD d rd tb now' safe next sv w) (hr : PutR kd b tb now now' l2) (hk : KpAt w (.slice A m cap) l2) (hlo : LO ≤ gx) :
    Calls Tryz.prog 57 #[.pointer (some ⟨gx, 0, none⟩), errA (kd : Nat) ⟨#[]⟩, .slice A m cap] w fun e w' => e = .returned (.bool true) ∧ ∃ (vn2 : Value) (now2 : List Pl.Pr), PHm gx g gT n vn2 vs vx now2 safe next sv tb w' ∧ PTree k gT g n vD d rd tb now2 safe next sv w' ∧ (now2 = now ∨ (b = false ∧ now2 = l2)) ∧ Gk w w' := by
  rcases hr with ⟨rfl, rfl, rfl, rfl⟩ | ⟨rfl, rfl, rfl, rfl⟩ | ⟨rfl, rfl⟩
  · refine (pchanged_ok gx A m cap _ _ _ _ _ _ _ false w hm.blk).mono ?_
    rintro e w' ⟨rfl, w2, hb2, rfl⟩
    obtain ⟨h1, h2, h3⟩ := (hm.below hb2).setNow (hk.below hb2) hlo
    exact ⟨rfl, _, _, h1, (hp.below hb2).gx (hm.below hb2).blk h2, .inr ⟨rfl, rfl⟩, (Gk.of_below hb2).trans h3⟩
  · refine (pchanged_full gx (.slice A m cap) _ _ _ _ _ _ _ false w hm.blk).mono ?_
    rintro e w' ⟨rfl, hb2⟩
    exact ⟨rfl, _, _, hm.below hb2, hp.below hb2, .inl rfl, Gk.of_below hb2⟩
  · refine (pchanged_dies gx g vD (.slice A m cap) _ _ _ _ _ _ b d rd w hm.blk hp.disk (hp.dead rfl).2.1).mono ?_
    rintro e w' ⟨rfl, w2, hb2, rfl⟩
    obtain ⟨h1, h2, h3⟩ := (hm.below hb2).setBad true hlo
    exact ⟨rfl, _, _, h1, ((hp.below hb2).gx (hm.below hb2).blk h2).any, .inl rfl, (Gk.of_below hb2).trans h3⟩
theorem setL_len {key v : Pl.Key} {l : List Pl.Pr} (h : Pl.Srt l) : (Pl.setL key v false l).length ≤ l.length + 1 := by
  rw [Pl.setL_put h]
  exact Pl.putL_len _ _ _
theorem setL_len' {key v : Pl.Key} {l : List Pl.Pr} (h : Pl.Srt l) (hh : Pl.hasP key l = true) : (Pl.setL key v true l).length ≤ l.length + 1 := by
  rw [Pl.setL_del h (by rw [← Pl.hasP_has h]; exact hh)]
  have := Pl.delL_len (k := key) l
  omega
end Go.Proofs.YtljmklohgpaopaaGreatDoor

namespace Go.Proofs.YtljmklohgpaopaaGreatDoor
open Go.RowKit
set_option linter.unusedSectionVars false
variable [Inhabited LoT]

set_option maxHeartbeats 4000000 in
set_option maxRecDepth 100000 in
theorem pact_die (gx n k i : Nat) (s : ByteArray) (w : World) (hi : i < s.size) (hss : s.size ≤ 4096) (h : PSt k gx n w) (hn : 16 ≤ n ∧ n ≤ 4096) (hk : k ≤ 4100) (hev : EvAt w) (hge : GE w) (hlo : LO ≤ w.heap.size) (hgx : LO ≤ gx) (hc : s[i].toNat % 6 = 4) :
    Calls Tryz.prog 31 #[.pointer (some ⟨gx, 0, none⟩), .string s, .int .i64 (i : Nat)] w (PAct k gx n w) := by
  obtain ⟨g, gT, vn, vs, vx, vD, d, rd, b, now, safe, next, sv, hm, hp, hsv, l1, l2, l3⟩ := h
  obtain ⟨c, hcc⟩ : ∃ c, s[i] = c := ⟨_, rfl⟩
  rw [hcc] at hc
  obtain ⟨q, hq1, hq2⟩ : ∃ q : Nat, q ≤ 42 ∧ ((c.toNat : Nat) : Int).tdiv 6 = (q : Int) := ⟨c.toNat / 6, by have := c.toNat_lt; omega, by rw [Int.tdiv_eq_ediv_of_nonneg (by omega)]; omega⟩
  have hr : ((c.toNat : Nat) : Int).tmod 6 = 4 := by rw [Int.tmod_eq_emod_of_nonneg (by omega)]; omega
  obtain ⟨m, hm1, hm2⟩ : ∃ m : Nat, m ≤ 12 ∧ (q : Int).tmod 13 = (m : Int) := ⟨q % 13, by omega, by rw [Int.tmod_eq_emod_of_nonneg (by omega)]; omega⟩
  obtain ⟨j, hj1, hj2⟩ : ∃ j : Nat, j < s.size ∧ ((i : Int) + 1).tmod (s.size : Int) = (j : Int) := ⟨(i + 1) % s.size, Nat.mod_lt _ (by omega), by rw [Int.tmod_eq_emod_of_nonneg (by omega)]; simp⟩
  obtain ⟨c2, hc2⟩ : ∃ c, s[j] = c := ⟨_, rfl⟩
  have hi2 : (i : Int) < (s.size : Int) := by omega
  have hj3 : (j : Int) < (s.size : Int) := by omega
  have hs0 : ¬ (s.size : Int) = 0 := by omega
  have hs1 : ((s.size : Int) == 0) = false := by simpa using hs0
  obtain ⟨L, hL⟩ : ∃ L, [UInt8.ofNat (97 + m), c2] = L := ⟨_, rfl⟩
  obtain ⟨key, hkey⟩ : ∃ key : Pl.Key, [107, 101, 121] ++ L = key := ⟨_, rfl⟩
  have hl2 : L.length = 2 := by rw [← hL]; rfl
  have hkl : key.length = 5 := by rw [← hkey, List.length_append, hl2]; rfl
  have hkf : Pl.KeyFit key := ⟨by omega, by omega⟩
  obtain ⟨w1, hw1⟩ : ∃ x, w.alloc (.cells #[.int .u8 (97 + (m : Int)), .int .u8 ((c2.toNat : Nat) : Int)] 5) = x := ⟨_, rfl⟩
  have hb1 : Below w.heap.size w w1 := by rw [← hw1]; exact (Below.refl _ _).alloc (Nat.le_refl _) _
  have hB : BytesAt w1 (some ⟨w.heap.size, 0, none⟩) L := by
    have h1 : Blk w1 w.heap.size 5 [.int .u8 (97 + (m : Int)), .int .u8 ((c2.toNat : Nat) : Int)] := by rw [← hw1]; exact Blk.new w 5 _
    rw [show (97 + (m : Int)) = (((UInt8.ofNat (97 + m)).toNat : Nat) : Int) by rw [UInt8.toNat_ofNat']; omega] at h1
    have h2 := Src.of_blk h1
    rw [← hL]
    exact h2.bytes
  have hcv := run_tostr w1 (some ⟨w.heap.size, 0, none⟩) L 2 hB
  rw [hl2] at hcv
  have hsz := tstr_size L
  rw [hl2] at hsz
  have hcat : (⟨#[107, 101, 121]⟩ ++ tstr L : ByteArray) = tstr key := by rw [← hkey]; simp [tstr, ByteArray.ext_iff]
  obtain ⟨sx, hsx⟩ : ∃ x, tstr L = x := ⟨_, rfl⟩
  rw [hsx] at hcv hsz hcat
  have hkz : (tstr key).size = 5 := by rw [tstr_size, hkl]
  obtain ⟨sk, hsk⟩ : ∃ x, tstr key = x := ⟨_, rfl⟩
  rw [hsk] at hcat hkz
  have hmw : IntKind.u8.wrap (97 + (m : Int)) = 97 + (m : Int) := IntWalk.u8_in _ (by omega)
  have HSK := Lib.hid hsk
  have HKF := Lib.hid (And.intro hkf hkl)
  have HB1 := Lib.hid hb1
  have HM1 := Lib.hid (hm.below hb1)
  have HP1 := Lib.hid (hp.below hb1)
  have HSV := Lib.hid hsv
  have HLN := Lib.hid (And.intro l1 (And.intro l2 l3))
  have HEG : Hid (EvAt w1 ∧ GE w1) := ⟨(Gk.of_below hb1).1 hev, (Gk.of_below hb1).2.1 hge⟩
  have HLO := Lib.hid (And.intro hlo hgx)
  have HG1 := Lib.hid (Gk.of_below hb1)
  obtain ⟨x0, x1, x2, x3, x4, x5, x6, x7, xf⟩ := facts8 (hm.below hb1).blk
  clear hL hkey hl2 hkl hkf hB hsx hsk hb1 hm hp hsv l1 l2 l3 hev hge hlo hgx
  obtain ⟨y, hy1, hy2⟩ : ∃ y : Nat, y ≤ 11 ∧ (q : Int).tmod 12 = (y : Int) := ⟨q % 12, by omega, by rw [Int.tmod_eq_emod_of_nonneg (by omega)]; omega⟩
  have HDI := Lib.hid (die_any g vD d rd (1 + (y : Int)) w1 HP1.out.disk ⟨by omega, by omega⟩)
  go_enter Tryz.func31, Tryz.ntmps31
  go_wp2_with fail
  refine HDI.out.mono ?_
  rintro e w2 ⟨rfl, hd2, ho2⟩
  have hq := HP1.out.die (by omega) _ hd2 ho2
  have HQ := Lib.hid hq
  clear hd2 ho2 hq
  go_wp2_with fail
  go_ret
  exact ⟨rfl, ⟨g, gT, vn, vs, vx, vD, _, rd, b, now, safe, next, sv, HM1.out.hfr HQ.out.2, HQ.out.1.later (Nat.le_succ k), HSV.out, by have := HLN.out; omega, by have := HLN.out; omega, by have := HLN.out; omega⟩, HG1.out.trans HQ.out.2.gk⟩
end Go.Proofs.YtljmklohgpaopaaGreatDoor
