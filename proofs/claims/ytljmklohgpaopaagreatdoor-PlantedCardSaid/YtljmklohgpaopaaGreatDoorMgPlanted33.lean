/- The harness over a tree: any step; the tree at first. The harness over a tree: Planted, the walk. -/
import Derived.Test.YtljmklohgpaopaaGreatDoorMgPlanted32
set_option linter.unusedVariables false
set_option linter.unusedSimpArgs false

namespace Go.Proofs.YtljmklohgpaopaaGreatDoor
open Go.RowKit
set_option linter.unusedSectionVars false
variable [Inhabited LoT]

theorem pact_any (gx n k i : Nat) (s : ByteArray) (w : World) (hi : i < s.size) (hss : s.size ≤ 4096) (h : PSt k gx n w) (hn : 16 ≤ n ∧ n ≤ 4096) (hk : k ≤ 4100) (hev : EvAt w) (hge : GE w) (hlo : LO ≤ w.heap.size) (hgx : LO ≤ gx) :
    Calls Tryz.prog 31 #[.pointer (some ⟨gx, 0, none⟩), .string s, .int .i64 (i : Nat)] w (PAct k gx n w) := by
  have h6 : s[i].toNat % 6 < 6 := Nat.mod_lt _ (by decide)
  by_cases c0 : s[i].toNat % 6 = 0
  · exact pact_put0 gx n k i s w hi hss h hn hk hev hge hlo hgx c0
  by_cases c1 : s[i].toNat % 6 = 1
  · exact pact_put1 gx n k i s w hi hss h hn hk hev hge hlo hgx c1
  by_cases c2 : s[i].toNat % 6 = 2
  · exact pact_take gx n k i s w hi hss h hn hk hev hge hlo hgx c2
  by_cases c3 : s[i].toNat % 6 = 3
  · exact pact_save gx n k i s w hi hss h hn hk hev hge hlo hgx c3
  by_cases c4 : s[i].toNat % 6 = 4
  · exact pact_die gx n k i s w hi hss h hn hk hev hge hlo hgx c4
  · exact pact_opens gx n k i s w hi hss h hn hk hev hge hlo hgx (by omega)
theorem Pl.fins_new (m : Int) : Pl.Fins (Pl.Dk.new m).secs := fun s hs => by
  unfold Pl.Dk.new at hs
  obtain rfl := List.eq_of_mem_replicate hs
  exact ⟨(fun e => by cases e), fun _ => ⟨rfl, fun _ => rfl⟩⟩
/-- A tree that was made, on a disk that is in order. -/
theorem CrPost.opn {g : Nat} {vD : Value} {d : Pl.Dk} {rd : Int} {n : Nat} {w w' : World} (h : CrPost g vD d rd 0 n w w') (hl : d.life < 0) (hf : d.secs.length = n) (hn : 16 ≤ n) (hfin : Pl.Fins d.secs) :
    ∃ (d' : Pl.Dk) (rd' : Int), DiskAt w' g vD d' rd' ∧ d'.life < 0 ∧ d'.secs.length = n ∧ Pl.Fins d'.secs ∧ (∀ j, Pl.Firm d' j) ∧ Opn d' n 1 [] := by
  obtain ⟨_, _, l, d1, s, rd', h1, h2, h3, h4, h5⟩ := h
  have hb1 : (d.change (.wr (0 + 0) [])).life < 0 := by rw [change_life hl]; exact hl
  have hb2 : ((d.change (.wr (0 + 0) [])).change (.wr (0 + 1) [])).life < 0 := by rw [change_life hb1]; exact hb1
  have hb3 : (begun d 0).life < 0 := by unfold begun; rw [change_life hb2]; exact hb2
  have hbl : (begun d 0).secs.length = d.secs.length := by unfold begun; rw [tchange_length, tchange_length, tchange_length]
  have hd1 : d1.life < 0 := by have := run_life hb3 (l ++ [.sy]); rw [h2] at this; rw [show d1.life = (begun d 0).life from this]; exact hb3
  have hd2 : (d1.change (.wr (0 + 1) (slotT 1 (Pl.top 0 s) (Pl.dcount n (Pl.secsOf 0 s))))).life < 0 := by rw [change_life hd1]; exact hd1
  obtain ⟨k1, k2, k3⟩ := slots_saved (seq := 0) h1 h2 h3 (by
      show d1.run [.wr (0 + 1) (slotT 1 (Pl.top 0 s) (Pl.dcount n (Pl.secsOf 0 s))), .sy] = _
      rw [Pl.Dk.run_cons, if_pos (Pl.alive_of hd1), Pl.Dk.run_cons, if_pos (Pl.alive_of hd2), Pl.Dk.run_nil])
    (fun x hx hh => by
      have e : (begun d 0).look (0 + 0 % 2) = some ([] ++ Pl.zeros (256 - ([] : List UInt8).length)) := by
        unfold begun
        rw [look_sync, look_off _ _ _ _ (by omega), show 0 + 0 % 2 = 0 + 0 from rfl, tchange_look (Pl.alive_of hl) (by omega), if_pos rfl]
      rw [e] at hx
      injection hx with hx
      rw [← hx] at hh
      exact absurd hh (by decide)) (by decide) (by omega) (by omega)
  have hfb : Pl.Fins (begun d 0).secs := Pl.fins_change (Pl.fins_change (Pl.fins_change hfin _) _) _
  have hf1 : Pl.Fins d1.secs := by have := Pl.fins_run (l := l ++ [.sy]) hfb; rw [h2] at this; exact this
  have hf2 := Pl.fins_change (Pl.fins_change hf1 (.wr (0 + 1) (slotT 1 (Pl.top 0 s) (Pl.dcount n (Pl.secsOf 0 s))))) .sy
  refine ⟨_, rd', h4, by rw [change_life hd2]; exact hd2, by rw [k3, hbl, hf], hf2, fun j => ?_, 1, 0, s, ([] : List Pl.Pr), ⟨k1, k2⟩, ⟨⟨by decide, fun p hp => by cases hp⟩, List.Pairwise.nil, fun p hp => by cases hp⟩, rfl, Nat.le_refl _⟩
  have hf3 : Pl.Fins (d1.change (.wr (0 + 1) (slotT 1 (Pl.top 0 s) (Pl.dcount n (Pl.secsOf 0 s))))).secs := Pl.fins_change hf1 _
  refine Pl.sync_firm (l := []) (d := d1.change (.wr (0 + 1) (slotT 1 (Pl.top 0 s) (Pl.dcount n (Pl.secsOf 0 s))))) ?_ hf3 j
  rw [List.nil_append, Pl.Dk.run_cons, if_pos (Pl.alive_of hd2), Pl.Dk.run_nil]
end Go.Proofs.YtljmklohgpaopaaGreatDoor

namespace Go.Proofs.YtljmklohgpaopaaGreatDoor
open Go.RowKit
set_option linter.unusedSectionVars false
variable [Inhabited LoT]

set_option maxHeartbeats 8000000 in
set_option maxRecDepth 100000 in
theorem planted_walk (sectors : Int) (s : ByteArray) (w : World) (hlo : LO = w.heap.size) (hG : GE w) (hE : EvAt w) (hsec : -9223372036854775808 ≤ sectors ∧ sectors ≤ 9223372036854775807) :
    Calls Tryz.prog 6 #[.int .i64 sectors, .string s] w fun e w' => e = .returned (.bool true) ∧ Below w.heap.size w w' := by
  by_cases hbig : 4096 < s.size
  · have hb' : (4096 : Int) < (s.size : Int) := by omega
    clear hG hE hbig
    go_enter Tryz.func6, Tryz.ntmps6
    go_wp2_with fail
    go_ret
    exact ⟨rfl, Below.refl _ _⟩
  have hbig' : ¬ (4096 : Int) < (s.size : Int) := by omega
  obtain ⟨y, hy, hy9⟩ : ∃ y : Nat, pickOf sectors 200 = (y : Int) ∧ y ≤ 199 := by
    refine ⟨(pickOf sectors 200).toNat, ?_, ?_⟩ <;> unfold pickOf <;> split <;> omega
  have HPK := Lib.hid (kpick_any sectors 200 w hsec ⟨by omega, by omega⟩)
  rw [hy] at HPK
  obtain ⟨n, hny⟩ : ∃ n, 16 + y = n := ⟨_, rfl⟩
  have hni : (16 : Int) + (y : Int) = (n : Int) := by omega
  have hn : 16 ≤ n ∧ n ≤ 4096 := by omega
  have HN := Lib.hid hn
  obtain ⟨gx, hgx⟩ : ∃ x, w.heap.size = x := ⟨_, rfl⟩
  obtain ⟨w1, hw1⟩ : ∃ x, w.alloc (.cells #[.pointer none, .pointer none, .int .i64 (n : Nat), .slice none 0 0, .slice none 0 0, .slice none 0 0, .bool false, .bool false] 78) = x := ⟨_, rfl⟩
  have hb1 : Below w.heap.size w w1 := by rw [← hw1]; exact (Below.refl _ _).alloc (Nat.le_refl _) _
  have BX1 : Hid (Blk w1 gx 78 [.pointer none, .pointer none, .int .i64 (n : Nat), .slice none 0 0, .slice none 0 0, .slice none 0 0, .bool false, .bool false]) := by rw [Hid, ← hw1, ← hgx]; exact Blk.new w 78 _
  have HNW := Lib.hid (new_any (n : Int) w1)
  have hmost : (Pl.Dk.new (n : Int)).secs.length = n := by unfold Pl.Dk.new Pl.most; rw [List.length_replicate]; split; omega; split <;> omega
  have hlife0 : (Pl.Dk.new (n : Int)).life < 0 := by show (-1 : Int) < 0; decide
  have hfin0 := Pl.fins_new (n : Int)
  obtain ⟨d0, hd0⟩ : ∃ d, Pl.Dk.new (n : Int) = d := ⟨_, rfl⟩
  rw [hd0] at hmost hlife0 hfin0 HNW
  have HD0 := Lib.hid (And.intro hmost (And.intro hlife0 hfin0))
  have hlogx : LO ≤ gx := by omega
  have HLOX := Lib.hid hlogx
  have HLOW := Lib.hid hlo
  have HEE : Hid (EvAt w ∧ GE w) := ⟨hE, hG⟩
  have HGE1 : Hid (GE w1 ∧ EvAt w1 ∧ LO ≤ w1.heap.size) := ⟨(Gk.of_below hb1).2.1 hG, (Gk.of_below hb1).1 hE, by have := hb1.size; omega⟩
  have HG1 := Lib.hid (Gk.of_below hb1)
  obtain ⟨x0, x1, x2, x3, x4, x5, x6, x7, xf⟩ := facts8 BX1.out
  clear hG hE hsec hy hny hb1 hn hmost hlife0 hfin0 hd0 hlogx hlo
  go_enter Tryz.func6, Tryz.ntmps6
  go_wp2_with fail
  refine HPK.out.mono ?_
  rintro e w' ⟨rfl, rfl⟩
  go_wp2_with fail
  refine HNW.out.mono ?_
  rintro e w2 ⟨vD, rfl, hd2, hb2, hfar⟩
  obtain ⟨g, hg⟩ : ∃ x, w1.heap.size = x := ⟨_, rfl⟩
  rw [hg] at hd2 hfar ⊢
  have hld : ∀ q, dF g vD q → LO ≤ q := fun q hq => Nat.le_trans HGE1.out.2.2 (by rw [hg]; exact hfar q hq)
  have BX2 := BX1.out.below hb2 BX1.out.lt
  obtain ⟨w3, hw3⟩ : ∃ x, w2.setCell ⟨gx, 0, none⟩ (.pointer (some ⟨g, 0, none⟩)) = x := ⟨_, rfl⟩
  have ho3 : Only (· = gx) w2 w3 := by rw [← hw3]; exact (Only.refl (· = gx) w2).setCell (p := ⟨gx, 0, none⟩) (.inl rfl) _
  have BX3 : Hid (Blk w3 gx 78 [.pointer (some ⟨g, 0, none⟩), .pointer none, .int .i64 (n : Nat), .slice none 0 0, .slice none 0 0, .slice none 0 0, .bool false, .bool false]) := by rw [Hid, ← hw3]; exact BX2.set_ 0 _
  have hd3 : DiskAt w3 g vD d0 0 := hd2.only_ ho3 (one_kinds BX2) (by decide) (by decide)
  have hg3 : Gk w1 w3 := (Gk.of_below hb2).trans (Gk.of1 BX2 rfl HLOX.out ho3)
  have HG3 : Hid (Gk w w3) := HG1.out.trans hg3
  have HLO0 : Hid (LO ≤ w3.heap.size) := Nat.le_trans HGE1.out.2.2 hg3.2.2.size
  have HCRE : Hid (∀ W, Below w3.heap.size w3 W → Calls Tryz.prog 18 #[.pointer (some ⟨g, 0, none⟩), .int .i64 0, .int .i64 (n : Nat)] W fun e w' => e = .returned (errA 0 ⟨#[]⟩) ∧ (∃ (d1 : Pl.Dk) (rd1 : Int), DiskAt w' g vD d1 rd1 ∧ d1.life < 0 ∧ d1.secs.length = n ∧ Pl.Fins d1.secs ∧ (∀ j, Pl.Firm d1 j) ∧ Opn d1 n 1 []) ∧ HFr W w' ∧ ∀ {b : Nat} {cs : List Value}, Blk W b 28 cs → Blk w' b 28 cs) := fun W hW =>
    (show Calls Tryz.prog 18 #[.pointer (some ⟨g, 0, none⟩), .int .i64 0, .int .i64 (n : Nat)] W fun e w' => e = .returned (errA 0 ⟨#[]⟩) ∧ CrPost g vD d0 0 0 n W w' from tnewP_any g 0 n vD d0 0 W (hd3.below hW) HD0.out.2.1 HN.out.1 HN.out.2 (by rw [HD0.out.1]; omega) ((Gk.of_below hW).1 (hg3.1 HGE1.out.2.1)) ((Gk.of_below hW).2.1 (hg3.2.1 HGE1.out.1)) hld).mono
      fun e w' ⟨h1, h2⟩ => ⟨h1, h2.opn HD0.out.2.1 HD0.out.1 HN.out.1 HD0.out.2.2, .of_sfr h2.1 h2.2.1 (by decide) (by decide), fun hb => h2.1.blk hb (by decide)⟩
  have HLD := Lib.hid hld
  clear x0 x1 x2 x3 x4 x5 x6 x7 xf hg hd2 hb2 hfar hld ho3 hd3 hg3
  obtain ⟨x0, x1, x2, x3, x4, x5, x6, x7, xf⟩ := facts8 BX2
  clear BX2
  unfold errA at HCRE
  go_upto_region 5 with fail
  go_cut [6] from 29 (fun s6 wx => ∃ (be : Nat), s6 = .pointer (some ⟨be, 0, none⟩) ∧ Hid (Blk wx be 28 [.int .i64 0, .string ⟨#[]⟩, .bool true]) ∧ Hid (∃ (d1 : Pl.Dk) (rd1 : Int), DiskAt wx g vD d1 rd1 ∧ d1.life < 0 ∧ d1.secs.length = n ∧ Pl.Fins d1.secs ∧ (∀ j, Pl.Firm d1 j) ∧ Opn d1 n 1 []) ∧ Hid (HFr w3 wx))
  case first =>
    have D0 : Hid (w3.cell? ⟨gx, 0, none⟩ = some (.pointer (some ⟨g, 0, none⟩)) ∧ w3.cell? ⟨gx, 2, none⟩ = some (.int .i64 (n : Nat))) := ⟨BX3.out.cell 0, BX3.out.cell 2⟩
    refine wp_region_L 10 (fun _ => True) (fun W => (W.cell? ⟨gx, 0, none⟩ = some (.pointer (some ⟨g, 0, none⟩)) ∧ W.cell? ⟨gx, 2, none⟩ = some (.int .i64 (n : Nat)))) (by kernel_rfl) trivial D0.out (fun hTill => ?_)
    refine wpL_take' (i := 0) (oi := _) (v := ?_) rfl (by kernel_rfl) (by kernel_rfl) (by kernel_rfl) (by kernel_rfl) (fun _ _ _ h => h) (.inl ⟨by rfl, ?_⟩) (by assumption) ?_
    rotate_left
    · intro W hSw
      (try dsimp only at hSw)
      go_simp
      (try rfl)
    (try simp only [Act.put, List.getElem_toArray, List.getElem_cons_succ, List.getElem_cons_zero, List.setIfInBounds_toArray, List.set_cons_zero, List.set_cons_succ])
    refine wpL_take' (i := 1) (oi := _) (v := ?_) rfl (by kernel_rfl) (by kernel_rfl) (by kernel_rfl) (by kernel_rfl) (fun _ _ _ h => h) (.inl ⟨by rfl, ?_⟩) (by assumption) ?_
    rotate_left
    · intro W hSw
      (try dsimp only at hSw)
      go_simp
      (try rfl)
    (try simp only [Act.put, List.getElem_toArray, List.getElem_cons_succ, List.getElem_cons_zero, List.setIfInBounds_toArray, List.set_cons_zero, List.set_cons_succ])
    refine wpL_take' (i := 2) (oi := _) (v := ?_) rfl (by kernel_rfl) (by kernel_rfl) (by kernel_rfl) (by kernel_rfl) (fun _ _ _ h => h) (.inl ⟨by rfl, ?_⟩) (by assumption) ?_
    rotate_left
    · intro W hSw
      (try dsimp only at hSw)
      go_simp
      (try rfl)
    (try simp only [Act.put, List.getElem_toArray, List.getElem_cons_succ, List.getElem_cons_zero, List.setIfInBounds_toArray, List.set_cons_zero, List.set_cons_succ])
    refine wpL_take' (i := 3) (oi := _) (v := ?_) rfl (by kernel_rfl) (by kernel_rfl) (by kernel_rfl) (by kernel_rfl) (fun _ _ _ h => h) (.inl ⟨by rfl, ?_⟩) (by assumption) ?_
    rotate_left
    · intro W hSw
      (try dsimp only at hSw)
      go_simp
      (try rfl)
    (try simp only [Act.put, List.getElem_toArray, List.getElem_cons_succ, List.getElem_cons_zero, List.setIfInBounds_toArray, List.set_cons_zero, List.set_cons_succ])
    refine wpL_take' (i := 4) (oi := _) (v := ?_) rfl (by kernel_rfl) (by kernel_rfl) (by kernel_rfl) (by kernel_rfl) (fun _ _ _ h => h) (.inl ⟨by rfl, ?_⟩) (by assumption) ?_
    rotate_left
    · intro W hSw
      (try dsimp only at hSw)
      go_simp
      (try rfl)
    (try simp only [Act.put, List.getElem_toArray, List.getElem_cons_succ, List.getElem_cons_zero, List.setIfInBounds_toArray, List.set_cons_zero, List.set_cons_succ])
    refine wpL_take' (i := 5) (oi := _) (v := ?_) rfl (by kernel_rfl) (by kernel_rfl) (by kernel_rfl) (by kernel_rfl) (fun _ _ _ h => h) (.inl ⟨by rfl, ?_⟩) (by assumption) ?_
    rotate_left
    · intro W hSw
      (try dsimp only at hSw)
      go_simp
      (try rfl)
    (try simp only [Act.put, List.getElem_toArray, List.getElem_cons_succ, List.getElem_cons_zero, List.setIfInBounds_toArray, List.set_cons_zero, List.set_cons_succ])
    refine wpL_take' (i := 6) (oi := _) (v := ?_) rfl (by kernel_rfl) (by kernel_rfl) (by kernel_rfl) (by kernel_rfl) (fun _ _ _ h => h) (.inl ⟨by rfl, ?_⟩) (by assumption) ?_
    rotate_left
    · intro W hSw
      (try dsimp only at hSw)
      go_simp
      (try rfl)
    (try simp only [Act.put, List.getElem_toArray, List.getElem_cons_succ, List.getElem_cons_zero, List.setIfInBounds_toArray, List.set_cons_zero, List.set_cons_succ])
    refine wpL_take' (i := 7) (oi := _) (v := ?_) rfl (by kernel_rfl) (by kernel_rfl) (by kernel_rfl) (by kernel_rfl) (fun _ _ _ h => h) (.inl ⟨by rfl, ?_⟩) (by assumption) ?_
    rotate_left
    · intro W hSw
      (try dsimp only at hSw)
      go_simp
      (try rfl)
    (try simp only [Act.put, List.getElem_toArray, List.getElem_cons_succ, List.getElem_cons_zero, List.setIfInBounds_toArray, List.set_cons_zero, List.set_cons_succ])
    refine wpL_ready (rs := [8, 9]) (by kernel_rfl) (by simp) ?_
    refine AllL.cons (o := _) rfl (fun K hK => ?_) (AllL.cons (o := _) rfl (fun K hK => ?_) AllL.nil)
    · go_simp
      refine (HCRE.out w3.drew ((Below.refl w3.heap.size w3).drew)).mono ?_
      rintro e wa ⟨rfl, hcd, hcf, herr⟩
      have HCD := Lib.hid hcd
      have HFRA : Hid (HFr w3 wa) := (HFr.of_below ((Below.refl w3.heap.size w3).drew)).trans hcf
      clear hcd hcf
      have HXA : Hid (Blk wa gx 78 _) := HFRA.out.blk _ _ BX3.out
      have D1 : Hid (wa.cell? ⟨gx, 0, none⟩ = some (.pointer (some ⟨g, 0, none⟩)) ∧ wa.cell? ⟨gx, 2, none⟩ = some (.int .i64 (n : Nat))) := ⟨HXA.out.cell 0, HXA.out.cell 2⟩
      go_wp2_with fail
      refine hK.out _ _ ⟨fun _ => trivial, D1.out⟩ (fun hTill => ?_)
      clear hK K
      (try simp only [Act.put, List.getElem_toArray, List.getElem_cons_succ, List.getElem_cons_zero, List.setIfInBounds_toArray, List.set_cons_zero, List.set_cons_succ])
      obtain ⟨wb, hwb⟩ : ∃ W, World.alloc wa (.cells #[.int .i64 0, .string ⟨#[]⟩, .bool false] 28) = W := ⟨_, rfl⟩
      obtain ⟨be, hbe⟩ : ∃ g, Array.size (World.heap wa) = g := ⟨_, rfl⟩
      have hbb : Below wa.heap.size wa wb := by rw [← hwb]; exact (Below.refl _ _).alloc (Nat.le_refl _) _
      have BE : Hid (Blk wb be 28 [.int .i64 0, .string ⟨#[]⟩, .bool false]) := by rw [Hid, ← hwb, ← hbe]; exact Blk.new wa 28 _
      have HXB : Hid (Blk wb gx 78 _) := HXA.out.below hbb HXA.out.lt
      have D2 : Hid (wb.cell? ⟨gx, 0, none⟩ = some (.pointer (some ⟨g, 0, none⟩)) ∧ wb.cell? ⟨gx, 2, none⟩ = some (.int .i64 (n : Nat))) := ⟨HXB.out.cell 0, HXB.out.cell 2⟩
      have HBB := Lib.hid hbb
      have HLTE : Hid (LO ≤ be) := by rw [Hid, ← hbe]; exact Nat.le_trans HLO0.out HFRA.out.gk.2.2.size
      clear hbb
      refine wpL_ready (rs := [9]) (by kernel_rfl) (by simp) ?_
      refine AllL.cons (o := _) rfl (fun K hK => ?_) AllL.nil
      go_simp
      (try rw [hwb])
      (try rw [hbe])
      refine hK.out _ _ ⟨fun _ => trivial, D2.out⟩ (fun hTill => ?_)
      clear hK K
      (try simp only [Act.put, List.getElem_toArray, List.getElem_cons_succ, List.getElem_cons_zero, List.setIfInBounds_toArray, List.set_cons_zero, List.set_cons_succ])
      obtain ⟨y0, y1, y2, z0, z1, z2⟩ := facts3 BE.out
      have D3 : Hid (∀ a b c, ((World.setCell (World.setCell (World.setCell wb ⟨be, 0, none⟩ a) ⟨be, 1, none⟩ b) ⟨be, 2, none⟩ c).cell? ⟨gx, 0, none⟩ = some (.pointer (some ⟨g, 0, none⟩)) ∧ (World.setCell (World.setCell (World.setCell wb ⟨be, 0, none⟩ a) ⟨be, 1, none⟩ b) ⟨be, 2, none⟩ c).cell? ⟨gx, 2, none⟩ = some (.int .i64 (n : Nat)))) := fun a b c => by
        have hx := (perr_only BE.out a b c).1.blk_ (one_kinds BE.out) HXB.out (by decide)
        exact ⟨hx.cell 0, hx.cell 2⟩
      refine wpL_ready (rs := [10]) (by kernel_rfl) (by simp) ?_
      refine AllL.cons (o := _) rfl (fun K hK => ?_) AllL.nil
      go_simp
      refine hK.out _ _ ⟨fun _ => trivial, D3.out _ _ _⟩ (fun hTill => ?_)
      clear hK K
      (try simp only [Act.put, List.getElem_toArray, List.getElem_cons_succ, List.getElem_cons_zero, List.setIfInBounds_toArray, List.set_cons_zero, List.set_cons_succ])
      refine wpL_done (by kernel_rfl) ?_ _
      clear hTill
      go_wp2_with fail
      go_meet
      case rel =>
        obtain ⟨hoe, hbe2⟩ := perr_only BE.out (.int .i64 0) (.string ⟨#[]⟩) (.bool true)
        have hfe : HFr wb _ := .of_err BE.out rfl HLTE.out hoe
        obtain ⟨d1, rd1, k1, k2⟩ := HCD.out
        exact ⟨be, rfl, hbe2, ⟨d1, rd1, (k1.below HBB.out).only_ hoe (one_kinds BE.out) (by decide) (by decide), k2⟩, (HFRA.out.trans (.of_below HBB.out)).trans hfe⟩
    · obtain ⟨wa, hwa⟩ : ∃ W, World.alloc w3.drew (.cells #[.int .i64 0, .string ⟨#[]⟩, .bool false] 28) = W := ⟨_, rfl⟩
      obtain ⟨be, hbe⟩ : ∃ g, Array.size (World.heap w3.drew) = g := ⟨_, rfl⟩
      have hba : Below w3.heap.size w3 wa := by rw [← hwa]; exact ((Below.refl w3.heap.size w3).drew).alloc (Nat.le_refl _) _
      have BE : Hid (Blk wa be 28 [.int .i64 0, .string ⟨#[]⟩, .bool false]) := by rw [Hid, ← hwa, ← hbe]; exact Blk.new w3.drew 28 _
      have HXA : Hid (Blk wa gx 78 _) := BX3.out.below hba BX3.out.lt
      have D2 : Hid (wa.cell? ⟨gx, 0, none⟩ = some (.pointer (some ⟨g, 0, none⟩)) ∧ wa.cell? ⟨gx, 2, none⟩ = some (.int .i64 (n : Nat))) := ⟨HXA.out.cell 0, HXA.out.cell 2⟩
      have HBA := Lib.hid hba
      have HLTE : Hid (w3.heap.size ≤ be) := by rw [Hid, ← hbe]; exact Nat.le_refl _
      clear hba
      go_simp
      (try rw [hwa])
      (try rw [hbe])
      refine hK.out _ _ ⟨fun _ => trivial, D2.out⟩ (fun hTill => ?_)
      clear hK K
      (try simp only [Act.put, List.getElem_toArray, List.getElem_cons_succ, List.getElem_cons_zero, List.setIfInBounds_toArray, List.set_cons_zero, List.set_cons_succ])
      refine wpL_ready (rs := [8]) (by kernel_rfl) (by simp) ?_
      refine AllL.cons (o := _) rfl (fun K hK => ?_) AllL.nil
      go_simp
      refine (HCRE.out wa HBA.out).mono ?_
      rintro e wb ⟨rfl, hcd, hcf, herr⟩
      have HCD := Lib.hid hcd
      have HFRB : Hid (HFr w3 wb) := (HFr.of_below HBA.out).trans hcf
      clear hcd hcf
      have HXB : Hid (Blk wb gx 78 _) := HFRB.out.blk _ _ BX3.out
      have D1 : Hid (wb.cell? ⟨gx, 0, none⟩ = some (.pointer (some ⟨g, 0, none⟩)) ∧ wb.cell? ⟨gx, 2, none⟩ = some (.int .i64 (n : Nat))) := ⟨HXB.out.cell 0, HXB.out.cell 2⟩
      have BEB : Hid (Blk wb be 28 [.int .i64 0, .string ⟨#[]⟩, .bool false]) := herr BE.out
      clear herr
      go_wp2_with fail
      refine hK.out _ _ ⟨fun _ => trivial, D1.out⟩ (fun hTill => ?_)
      clear hK K
      (try simp only [Act.put, List.getElem_toArray, List.getElem_cons_succ, List.getElem_cons_zero, List.setIfInBounds_toArray, List.set_cons_zero, List.set_cons_succ])
      obtain ⟨y0, y1, y2, z0, z1, z2⟩ := facts3 BEB.out
      have D3 : Hid (∀ a b c, ((World.setCell (World.setCell (World.setCell wb ⟨be, 0, none⟩ a) ⟨be, 1, none⟩ b) ⟨be, 2, none⟩ c).cell? ⟨gx, 0, none⟩ = some (.pointer (some ⟨g, 0, none⟩)) ∧ (World.setCell (World.setCell (World.setCell wb ⟨be, 0, none⟩ a) ⟨be, 1, none⟩ b) ⟨be, 2, none⟩ c).cell? ⟨gx, 2, none⟩ = some (.int .i64 (n : Nat)))) := fun a b c => by
        have hx := (perr_only BEB.out a b c).1.blk_ (one_kinds BEB.out) HXB.out (by decide)
        exact ⟨hx.cell 0, hx.cell 2⟩
      refine wpL_ready (rs := [10]) (by kernel_rfl) (by simp) ?_
      refine AllL.cons (o := _) rfl (fun K hK => ?_) AllL.nil
      go_simp
      refine hK.out _ _ ⟨fun _ => trivial, D3.out _ _ _⟩ (fun hTill => ?_)
      clear hK K
      (try simp only [Act.put, List.getElem_toArray, List.getElem_cons_succ, List.getElem_cons_zero, List.setIfInBounds_toArray, List.set_cons_zero, List.set_cons_succ])
      refine wpL_done (by kernel_rfl) ?_ _
      clear hTill
      go_wp2_with fail
      go_meet
      case rel =>
        obtain ⟨hoe, hbe2⟩ := perr_only BEB.out (.int .i64 0) (.string ⟨#[]⟩) (.bool true)
        have hfe : HFr wb _ := .of_err BEB.out rfl (Nat.le_trans HLO0.out HLTE.out) hoe
        obtain ⟨d1, rd1, k1, k2⟩ := HCD.out
        exact ⟨be, rfl, hbe2, ⟨d1, rd1, k1.only_ hoe (one_kinds BEB.out) (by decide) (by decide), k2⟩, HFRB.out.trans hfe⟩
  case rest =>
    obtain ⟨be0, rfl, HBE0, HDS, HFR⟩ := hcut
    obtain ⟨wx, hwx, HBE0, HDS, HFR⟩ : ∃ x, x = wc ∧ Hid (Blk x be0 28 [.int .i64 0, .string ⟨#[]⟩, .bool true]) ∧ Hid (∃ (d1 : Pl.Dk) (rd1 : Int), DiskAt x g vD d1 rd1 ∧ d1.life < 0 ∧ d1.secs.length = n ∧ Pl.Fins d1.secs ∧ (∀ j, Pl.Firm d1 j) ∧ Opn d1 n 1 []) ∧ Hid (HFr w3 x) := ⟨wc, rfl, HBE0, HDS, HFR⟩
    subst hwx
    obtain ⟨d1, rd1, k1, k2, k3, k4, k5, k6⟩ := HDS.out
    have BXX : Hid (Blk wx gx 78 [.pointer (some ⟨g, 0, none⟩), .pointer none, .int .i64 (n : Nat), .slice none 0 0, .slice none 0 0, .slice none 0 0, .bool false, .bool false]) := HFR.out.blk _ _ BX3.out
    have hgx' : Gk w wx := HG3.out.trans HFR.out.gk
    have HGX := Lib.hid hgx'
    have hex : EvAt wx ∧ GE wx := ⟨HFR.out.gk.1 (HG3.out.1 (HEE.out.1)), HFR.out.gk.2.1 (HG3.out.2.1 HEE.out.2)⟩
    have hlx : LO ≤ wx.heap.size := Nat.le_trans HLO0.out HFR.out.gk.2.2.size
    have HOPN : Hid (∀ W, Below wx.heap.size wx W → Calls Tryz.prog 19 #[.pointer (some ⟨g, 0, none⟩), .int .i64 0, .int .i64 (n : Nat)] W fun e w' => ∃ (gT : Nat) (rd' : Int), e = .returned (.tuple #[.pointer (some ⟨gT, 0, none⟩), errA 0 ⟨#[]⟩]) ∧ PTree 0 gT g n vD d1 rd' false [] [] [] false w' ∧ HFr W w' ∧ Only (· = g) W w') := fun W hW =>
      pt_open (q := 1) (k1.below hW) k4 k5 k3 HLD.out (by omega) k6 (by omega) HN.out (by simp) [] false ((Gk.of_below hW).1 hex.1) ((Gk.of_below hW).2.1 hex.2) (Nat.le_trans hlx hW.size)
    have HGLT : Hid (g < wx.heap.size) := by obtain ⟨_, _, hb⟩ := k1.blk; exact hb.lt
    have HBEG : Hid (be0 ≠ g) := by obtain ⟨_, _, hb⟩ := k1.blk; exact HBE0.out.ne hb (by decide)
    have HLO0' := HLO0
    clear HLO0
    have HLO0 := Lib.hid hlx
    clear k1 k2 k3 k4 k5 k6 hgx' hex hlx HDS hw3 x0 x1 x2 x3 x4 x5 x6 x7 xf
    unfold errA at HOPN
    go_upto_region 6 with fail
    go_cut [7, 8] from 38 (fun s7 s8 wx2 => ∃ (gT be : Nat) (rd2 : Int), s7 = .pointer (some ⟨gT, 0, none⟩) ∧ s8 = .pointer (some ⟨be, 0, none⟩) ∧ Hid (Blk wx2 be 28 [.int .i64 0, .string ⟨#[]⟩, .bool true]) ∧ Hid (Blk wx2 be0 28 [.int .i64 0, .string ⟨#[]⟩, .bool true]) ∧ Hid (PTree 0 gT g n vD d1 rd2 false [] [] [] false wx2) ∧ Hid (HFr wx wx2))
    case first =>
      have D0 : Hid (wx.cell? ⟨gx, 0, none⟩ = some (.pointer (some ⟨g, 0, none⟩)) ∧ wx.cell? ⟨gx, 2, none⟩ = some (.int .i64 (n : Nat))) := ⟨BXX.out.cell 0, BXX.out.cell 2⟩
      refine wp_region_L 14 (fun _ => True) (fun W => (W.cell? ⟨gx, 0, none⟩ = some (.pointer (some ⟨g, 0, none⟩)) ∧ W.cell? ⟨gx, 2, none⟩ = some (.int .i64 (n : Nat)))) (by kernel_rfl) trivial D0.out (fun hTill => ?_)
      refine wpL_take' (i := 0) (oi := _) (v := ?_) rfl (by kernel_rfl) (by kernel_rfl) (by kernel_rfl) (by kernel_rfl) (fun _ _ _ h => h) (.inl ⟨by rfl, ?_⟩) (by assumption) ?_
      rotate_left
      · intro W hSw
        (try dsimp only at hSw)
        go_simp
        (try rfl)
      (try simp only [Act.put, List.getElem_toArray, List.getElem_cons_succ, List.getElem_cons_zero, List.setIfInBounds_toArray, List.set_cons_zero, List.set_cons_succ])
      refine wpL_take' (i := 1) (oi := _) (v := ?_) rfl (by kernel_rfl) (by kernel_rfl) (by kernel_rfl) (by kernel_rfl) (fun _ _ _ h => h) (.inl ⟨by rfl, ?_⟩) (by assumption) ?_
      rotate_left
      · intro W hSw
        (try dsimp only at hSw)
        go_simp
        (try rfl)
      (try simp only [Act.put, List.getElem_toArray, List.getElem_cons_succ, List.getElem_cons_zero, List.setIfInBounds_toArray, List.set_cons_zero, List.set_cons_succ])
      refine wpL_take' (i := 2) (oi := _) (v := ?_) rfl (by kernel_rfl) (by kernel_rfl) (by kernel_rfl) (by kernel_rfl) (fun _ _ _ h => h) (.inl ⟨by rfl, ?_⟩) (by assumption) ?_
      rotate_left
      · intro W hSw
        (try dsimp only at hSw)
        go_simp
        (try rfl)
      (try simp only [Act.put, List.getElem_toArray, List.getElem_cons_succ, List.getElem_cons_zero, List.setIfInBounds_toArray, List.set_cons_zero, List.set_cons_succ])
      refine wpL_take' (i := 3) (oi := _) (v := ?_) rfl (by kernel_rfl) (by kernel_rfl) (by kernel_rfl) (by kernel_rfl) (fun _ _ _ h => h) (.inl ⟨by rfl, ?_⟩) (by assumption) ?_
      rotate_left
      · intro W hSw
        (try dsimp only at hSw)
        go_simp
        (try rfl)
      (try simp only [Act.put, List.getElem_toArray, List.getElem_cons_succ, List.getElem_cons_zero, List.setIfInBounds_toArray, List.set_cons_zero, List.set_cons_succ])
      refine wpL_take' (i := 4) (oi := _) (v := ?_) rfl (by kernel_rfl) (by kernel_rfl) (by kernel_rfl) (by kernel_rfl) (fun _ _ _ h => h) (.inl ⟨by rfl, ?_⟩) (by assumption) ?_
      rotate_left
      · intro W hSw
        (try dsimp only at hSw)
        go_simp
        (try rfl)
      (try simp only [Act.put, List.getElem_toArray, List.getElem_cons_succ, List.getElem_cons_zero, List.setIfInBounds_toArray, List.set_cons_zero, List.set_cons_succ])
      refine wpL_take' (i := 5) (oi := _) (v := ?_) rfl (by kernel_rfl) (by kernel_rfl) (by kernel_rfl) (by kernel_rfl) (fun _ _ _ h => h) (.inl ⟨by rfl, ?_⟩) (by assumption) ?_
      rotate_left
      · intro W hSw
        (try dsimp only at hSw)
        go_simp
        (try rfl)
      (try simp only [Act.put, List.getElem_toArray, List.getElem_cons_succ, List.getElem_cons_zero, List.setIfInBounds_toArray, List.set_cons_zero, List.set_cons_succ])
      refine wpL_take' (i := 6) (oi := _) (v := ?_) rfl (by kernel_rfl) (by kernel_rfl) (by kernel_rfl) (by kernel_rfl) (fun _ _ _ h => h) (.inl ⟨by rfl, ?_⟩) (by assumption) ?_
      rotate_left
      · intro W hSw
        (try dsimp only at hSw)
        go_simp
        (try rfl)
      (try simp only [Act.put, List.getElem_toArray, List.getElem_cons_succ, List.getElem_cons_zero, List.setIfInBounds_toArray, List.set_cons_zero, List.set_cons_succ])
      refine wpL_take' (i := 7) (oi := _) (v := ?_) rfl (by kernel_rfl) (by kernel_rfl) (by kernel_rfl) (by kernel_rfl) (fun _ _ _ h => h) (.inl ⟨by rfl, ?_⟩) (by assumption) ?_
      rotate_left
      · intro W hSw
        (try dsimp only at hSw)
        go_simp
        (try rfl)
      (try simp only [Act.put, List.getElem_toArray, List.getElem_cons_succ, List.getElem_cons_zero, List.setIfInBounds_toArray, List.set_cons_zero, List.set_cons_succ])
      refine wpL_ready (rs := [8, 12]) (by kernel_rfl) (by simp) ?_
      refine AllL.cons (o := _) rfl (fun K hK => ?_) (AllL.cons (o := _) rfl (fun K hK => ?_) AllL.nil)
      · go_simp
        refine (HOPN.out wx.drew ((Below.refl wx.heap.size wx).drew)).mono ?_
        rintro e wa ⟨gT, rd2, rfl, hpt, hcf, hon⟩
        have HPT := Lib.hid hpt
        have HFRA : Hid (HFr wx wa) := (HFr.of_below ((Below.refl wx.heap.size wx).drew)).trans hcf
        have HB0A : Hid (Blk wa be0 28 [.int .i64 0, .string ⟨#[]⟩, .bool true]) := (hon.blk (HBE0.out.below ((Below.refl wx.heap.size wx).drew) HBE0.out.lt) HBEG.out)
        clear hpt hcf hon
        have HXA : Hid (Blk wa gx 78 _) := HFRA.out.blk _ _ BXX.out
        have D1 : Hid (wa.cell? ⟨gx, 0, none⟩ = some (.pointer (some ⟨g, 0, none⟩)) ∧ wa.cell? ⟨gx, 2, none⟩ = some (.int .i64 (n : Nat))) := ⟨HXA.out.cell 0, HXA.out.cell 2⟩
        go_wp2_with fail
        refine hK.out _ _ ⟨fun _ => trivial, D1.out⟩ (fun hTill => ?_)
        clear hK K
        (try simp only [Act.put, List.getElem_toArray, List.getElem_cons_succ, List.getElem_cons_zero, List.setIfInBounds_toArray, List.set_cons_zero, List.set_cons_succ])
        refine wpL_take' (i := 9) (oi := _) (v := ?_) rfl (by kernel_rfl) (by kernel_rfl) (by kernel_rfl) (by kernel_rfl) (fun _ _ _ h => h) (.inl ⟨by rfl, ?_⟩) (by assumption) ?_
        rotate_left
        · intro W hSw
          (try dsimp only at hSw)
          go_simp
          (try rfl)
        (try simp only [Act.put, List.getElem_toArray, List.getElem_cons_succ, List.getElem_cons_zero, List.setIfInBounds_toArray, List.set_cons_zero, List.set_cons_succ])
        refine wpL_take' (i := 10) (oi := _) (v := ?_) rfl (by kernel_rfl) (by kernel_rfl) (by kernel_rfl) (by kernel_rfl) (fun _ _ _ h => h) (.inl ⟨by rfl, ?_⟩) (by assumption) ?_
        rotate_left
        · intro W hSw
          (try dsimp only at hSw)
          go_simp
          (try rfl)
        (try simp only [Act.put, List.getElem_toArray, List.getElem_cons_succ, List.getElem_cons_zero, List.setIfInBounds_toArray, List.set_cons_zero, List.set_cons_succ])
        refine wpL_take' (i := 11) (oi := _) (v := ?_) rfl (by kernel_rfl) (by kernel_rfl) (by kernel_rfl) (by kernel_rfl) (fun _ _ _ h => h) (.inl ⟨by rfl, ?_⟩) (by assumption) ?_
        rotate_left
        · intro W hSw
          (try dsimp only at hSw)
          go_simp
          (try rfl)
        (try simp only [Act.put, List.getElem_toArray, List.getElem_cons_succ, List.getElem_cons_zero, List.setIfInBounds_toArray, List.set_cons_zero, List.set_cons_succ])
        obtain ⟨wb, hwb⟩ : ∃ W, World.alloc wa (.cells #[.int .i64 0, .string ⟨#[]⟩, .bool false] 28) = W := ⟨_, rfl⟩
        obtain ⟨be, hbe⟩ : ∃ g, Array.size (World.heap wa) = g := ⟨_, rfl⟩
        have hbb : Below wa.heap.size wa wb := by rw [← hwb]; exact (Below.refl _ _).alloc (Nat.le_refl _) _
        have BE : Hid (Blk wb be 28 [.int .i64 0, .string ⟨#[]⟩, .bool false]) := by rw [Hid, ← hwb, ← hbe]; exact Blk.new wa 28 _
        have HXB : Hid (Blk wb gx 78 _) := HXA.out.below hbb HXA.out.lt
        have D2 : Hid (wb.cell? ⟨gx, 0, none⟩ = some (.pointer (some ⟨g, 0, none⟩)) ∧ wb.cell? ⟨gx, 2, none⟩ = some (.int .i64 (n : Nat))) := ⟨HXB.out.cell 0, HXB.out.cell 2⟩
        have HBB := Lib.hid hbb
        have HLTE : Hid (LO ≤ be) := by rw [Hid, ← hbe]; exact Nat.le_trans HLO0.out HFRA.out.gk.2.2.size
        clear hbb
        refine wpL_ready (rs := [12]) (by kernel_rfl) (by simp) ?_
        refine AllL.cons (o := _) rfl (fun K hK => ?_) AllL.nil
        go_simp
        (try rw [hwb])
        (try rw [hbe])
        refine hK.out _ _ ⟨fun _ => trivial, D2.out⟩ (fun hTill => ?_)
        clear hK K
        (try simp only [Act.put, List.getElem_toArray, List.getElem_cons_succ, List.getElem_cons_zero, List.setIfInBounds_toArray, List.set_cons_zero, List.set_cons_succ])
        refine wpL_take' (i := 13) (oi := _) (v := ?_) rfl (by kernel_rfl) (by kernel_rfl) (by kernel_rfl) (by kernel_rfl) (fun _ _ _ h => h) (.inl ⟨by rfl, ?_⟩) (by assumption) ?_
        rotate_left
        · intro W hSw
          (try dsimp only at hSw)
          go_simp
          (try rfl)
        (try simp only [Act.put, List.getElem_toArray, List.getElem_cons_succ, List.getElem_cons_zero, List.setIfInBounds_toArray, List.set_cons_zero, List.set_cons_succ])
        obtain ⟨y0, y1, y2, z0, z1, z2⟩ := facts3 BE.out
        have D3 : Hid (∀ a b c, ((World.setCell (World.setCell (World.setCell wb ⟨be, 0, none⟩ a) ⟨be, 1, none⟩ b) ⟨be, 2, none⟩ c).cell? ⟨gx, 0, none⟩ = some (.pointer (some ⟨g, 0, none⟩)) ∧ (World.setCell (World.setCell (World.setCell wb ⟨be, 0, none⟩ a) ⟨be, 1, none⟩ b) ⟨be, 2, none⟩ c).cell? ⟨gx, 2, none⟩ = some (.int .i64 (n : Nat)))) := fun a b c => by
          have hx := (perr_only BE.out a b c).1.blk_ (one_kinds BE.out) HXB.out (by decide)
          exact ⟨hx.cell 0, hx.cell 2⟩
        refine wpL_ready (rs := [14]) (by kernel_rfl) (by simp) ?_
        refine AllL.cons (o := _) rfl (fun K hK => ?_) AllL.nil
        go_simp
        refine hK.out _ _ ⟨fun _ => trivial, D3.out _ _ _⟩ (fun hTill => ?_)
        clear hK K
        (try simp only [Act.put, List.getElem_toArray, List.getElem_cons_succ, List.getElem_cons_zero, List.setIfInBounds_toArray, List.set_cons_zero, List.set_cons_succ])
        refine wpL_done (by kernel_rfl) ?_ _
        clear hTill
        go_wp2_with fail
        go_meet
        case rel =>
          obtain ⟨hoe, hbe2⟩ := perr_only BE.out (.int .i64 0) (.string ⟨#[]⟩) (.bool true)
          have hfe : HFr wb _ := .of_err BE.out rfl HLTE.out hoe
          have hne : be0 ≠ be := fun e => by
            have h1 := HB0A.out.lt
            rw [← e] at hbe
            omega
          exact ⟨gT, be, rd2, rfl, rfl, hbe2, hoe.blk (HB0A.out.below HBB.out HB0A.out.lt) (fun e => hne e), (HPT.out.below HBB.out).only hoe (one_kinds BE.out) (by decide) (by decide) (by decide) (by decide) (by decide), (HFRA.out.trans (.of_below HBB.out)).trans hfe⟩
      · obtain ⟨wa, hwa⟩ : ∃ W, World.alloc wx.drew (.cells #[.int .i64 0, .string ⟨#[]⟩, .bool false] 28) = W := ⟨_, rfl⟩
        obtain ⟨be, hbe⟩ : ∃ g, Array.size (World.heap wx.drew) = g := ⟨_, rfl⟩
        have hba : Below wx.heap.size wx wa := by rw [← hwa]; exact ((Below.refl wx.heap.size wx).drew).alloc (Nat.le_refl _) _
        have BE : Hid (Blk wa be 28 [.int .i64 0, .string ⟨#[]⟩, .bool false]) := by rw [Hid, ← hwa, ← hbe]; exact Blk.new wx.drew 28 _
        have HXA : Hid (Blk wa gx 78 _) := BXX.out.below hba BXX.out.lt
        have D2 : Hid (wa.cell? ⟨gx, 0, none⟩ = some (.pointer (some ⟨g, 0, none⟩)) ∧ wa.cell? ⟨gx, 2, none⟩ = some (.int .i64 (n : Nat))) := ⟨HXA.out.cell 0, HXA.out.cell 2⟩
        have HBA := Lib.hid hba
        have HLTE : Hid (wx.heap.size ≤ be) := by rw [Hid, ← hbe]; exact Nat.le_refl _
        clear hba
        go_simp
        (try rw [hwa])
        (try rw [hbe])
        refine hK.out _ _ ⟨fun _ => trivial, D2.out⟩ (fun hTill => ?_)
        clear hK K
        (try simp only [Act.put, List.getElem_toArray, List.getElem_cons_succ, List.getElem_cons_zero, List.setIfInBounds_toArray, List.set_cons_zero, List.set_cons_succ])
        refine wpL_ready (rs := [8]) (by kernel_rfl) (by simp) ?_
        refine AllL.cons (o := _) rfl (fun K hK => ?_) AllL.nil
        go_simp
        refine (HOPN.out wa HBA.out).mono ?_
        rintro e wb ⟨gT, rd2, rfl, hpt, hcf, hon⟩
        have HPT := Lib.hid hpt
        have HFRB : Hid (HFr wx wb) := (HFr.of_below HBA.out).trans hcf
        have HB0A : Hid (Blk wb be0 28 [.int .i64 0, .string ⟨#[]⟩, .bool true]) := (hon.blk (HBE0.out.below HBA.out HBE0.out.lt) HBEG.out)
        have herr : ∀ {cs : List Value}, Blk wa be 28 cs → Blk wb be 28 cs := fun hb => hon.blk hb (fun e => by have h1 := HLTE.out; have h2 := HGLT.out; omega)
        clear hpt hcf hon
        have HXB : Hid (Blk wb gx 78 _) := HFRB.out.blk _ _ BXX.out
        have D1 : Hid (wb.cell? ⟨gx, 0, none⟩ = some (.pointer (some ⟨g, 0, none⟩)) ∧ wb.cell? ⟨gx, 2, none⟩ = some (.int .i64 (n : Nat))) := ⟨HXB.out.cell 0, HXB.out.cell 2⟩
        have BEB : Hid (Blk wb be 28 [.int .i64 0, .string ⟨#[]⟩, .bool false]) := herr BE.out
        clear herr
        go_wp2_with fail
        refine hK.out _ _ ⟨fun _ => trivial, D1.out⟩ (fun hTill => ?_)
        clear hK K
        (try simp only [Act.put, List.getElem_toArray, List.getElem_cons_succ, List.getElem_cons_zero, List.setIfInBounds_toArray, List.set_cons_zero, List.set_cons_succ])
        refine wpL_take' (i := 9) (oi := _) (v := ?_) rfl (by kernel_rfl) (by kernel_rfl) (by kernel_rfl) (by kernel_rfl) (fun _ _ _ h => h) (.inl ⟨by rfl, ?_⟩) (by assumption) ?_
        rotate_left
        · intro W hSw
          (try dsimp only at hSw)
          go_simp
          (try rfl)
        (try simp only [Act.put, List.getElem_toArray, List.getElem_cons_succ, List.getElem_cons_zero, List.setIfInBounds_toArray, List.set_cons_zero, List.set_cons_succ])
        refine wpL_take' (i := 10) (oi := _) (v := ?_) rfl (by kernel_rfl) (by kernel_rfl) (by kernel_rfl) (by kernel_rfl) (fun _ _ _ h => h) (.inl ⟨by rfl, ?_⟩) (by assumption) ?_
        rotate_left
        · intro W hSw
          (try dsimp only at hSw)
          go_simp
          (try rfl)
        (try simp only [Act.put, List.getElem_toArray, List.getElem_cons_succ, List.getElem_cons_zero, List.setIfInBounds_toArray, List.set_cons_zero, List.set_cons_succ])
        refine wpL_take' (i := 11) (oi := _) (v := ?_) rfl (by kernel_rfl) (by kernel_rfl) (by kernel_rfl) (by kernel_rfl) (fun _ _ _ h => h) (.inl ⟨by rfl, ?_⟩) (by assumption) ?_
        rotate_left
        · intro W hSw
          (try dsimp only at hSw)
          go_simp
          (try rfl)
        (try simp only [Act.put, List.getElem_toArray, List.getElem_cons_succ, List.getElem_cons_zero, List.setIfInBounds_toArray, List.set_cons_zero, List.set_cons_succ])
        refine wpL_take' (i := 13) (oi := _) (v := ?_) rfl (by kernel_rfl) (by kernel_rfl) (by kernel_rfl) (by kernel_rfl) (fun _ _ _ h => h) (.inl ⟨by rfl, ?_⟩) (by assumption) ?_
        rotate_left
        · intro W hSw
          (try dsimp only at hSw)
          go_simp
          (try rfl)
        (try simp only [Act.put, List.getElem_toArray, List.getElem_cons_succ, List.getElem_cons_zero, List.setIfInBounds_toArray, List.set_cons_zero, List.set_cons_succ])
        obtain ⟨y0, y1, y2, z0, z1, z2⟩ := facts3 BEB.out
        have D3 : Hid (∀ a b c, ((World.setCell (World.setCell (World.setCell wb ⟨be, 0, none⟩ a) ⟨be, 1, none⟩ b) ⟨be, 2, none⟩ c).cell? ⟨gx, 0, none⟩ = some (.pointer (some ⟨g, 0, none⟩)) ∧ (World.setCell (World.setCell (World.setCell wb ⟨be, 0, none⟩ a) ⟨be, 1, none⟩ b) ⟨be, 2, none⟩ c).cell? ⟨gx, 2, none⟩ = some (.int .i64 (n : Nat)))) := fun a b c => by
          have hx := (perr_only BEB.out a b c).1.blk_ (one_kinds BEB.out) HXB.out (by decide)
          exact ⟨hx.cell 0, hx.cell 2⟩
        refine wpL_ready (rs := [14]) (by kernel_rfl) (by simp) ?_
        refine AllL.cons (o := _) rfl (fun K hK => ?_) AllL.nil
        go_simp
        refine hK.out _ _ ⟨fun _ => trivial, D3.out _ _ _⟩ (fun hTill => ?_)
        clear hK K
        (try simp only [Act.put, List.getElem_toArray, List.getElem_cons_succ, List.getElem_cons_zero, List.setIfInBounds_toArray, List.set_cons_zero, List.set_cons_succ])
        refine wpL_done (by kernel_rfl) ?_ _
        clear hTill
        go_wp2_with fail
        go_meet
        case rel =>
          obtain ⟨hoe, hbe2⟩ := perr_only BEB.out (.int .i64 0) (.string ⟨#[]⟩) (.bool true)
          have hfe : HFr wb _ := .of_err BEB.out rfl (Nat.le_trans HLO0.out HLTE.out) hoe
          have hne : be0 ≠ be := fun e => by
            have h1 := HBE0.out.lt
            have h2 := HLTE.out
            omega
          exact ⟨gT, be, rd2, rfl, rfl, hbe2, hoe.blk HB0A.out (fun e => hne e), HPT.out.only hoe (one_kinds BEB.out) (by decide) (by decide) (by decide) (by decide) (by decide), HFRB.out.trans hfe⟩
    case rest =>
      obtain ⟨gT, be, rd2, rfl, rfl, HBE, HBE1, HPT, HFR2⟩ := hcut
      obtain ⟨wy, hwy, HBE, HBE1, HPT, HFR2⟩ : ∃ x, x = wc ∧ Hid (Blk x be 28 [.int .i64 0, .string ⟨#[]⟩, .bool true]) ∧ Hid (Blk x be0 28 [.int .i64 0, .string ⟨#[]⟩, .bool true]) ∧ Hid (PTree 0 gT g n vD d1 rd2 false [] [] [] false x) ∧ Hid (HFr wx x) := ⟨wc, rfl, HBE, HBE1, HPT, HFR2⟩
      subst hwy
      have BXY := Lib.hid (HFR2.out.blk _ _ BXX.out)
      have HGY : Hid (Gk w wy) := HGX.out.trans HFR2.out.gk
      obtain ⟨z0, z1, z2, _, _, _⟩ := facts3 HBE1.out
      have q3 := fun W => fine_any 0 W
      unfold errA at q3
      have Q3 := Lib.hid q3
      clear q3
      go_wp2_with fail
      refine (Q3.out _).mono ?_
      rintro e w5 ⟨rfl, hb5⟩
      have HBE5 := HBE.out.below hb5 HBE.out.lt
      clear z0 z1 z2
      obtain ⟨z0, z1, z2, _, _, _⟩ := facts3 HBE5
      go_wp2_with fail
      refine (Q3.out _).mono ?_
      rintro e w6 ⟨rfl, hb6⟩
      have hb56 : Below wy.heap.size wy w6 := hb5.trans (hb6.mono hb5.size)
      have BX6 := Lib.hid (BXY.out.below hb56 BXY.out.lt)
      have HP6 := Lib.hid (HPT.out.below hb56)
      have HG6 : Hid (Gk w w6) := HGY.out.trans (Gk.of_below hb56)
      clear z0 z1 z2 hb5 hb6 hb56 HBE5
      obtain ⟨x0, x1, x2, x3, x4, x5, x6, x7, xf⟩ := facts8 BX6.out
      obtain ⟨w7, hw7⟩ : ∃ x, w6.setCell ⟨gx, 1, none⟩ (.pointer (some ⟨gT, 0, none⟩)) = x := ⟨_, rfl⟩
      have ho7 : Only (· = gx) w6 w7 := by rw [← hw7]; exact (Only.refl (· = gx) w6).setCell (p := ⟨gx, 1, none⟩) (.inl rfl) _
      have hbk7 : Blk w7 gx 78 (plCells g gT n (.slice none 0 0) (.slice none 0 0) (.slice none 0 0) false false) := by rw [← hw7]; exact BX6.out.set_ 1 _
      have HST : Hid (PSt 0 gx n w7) := ⟨g, gT, _, _, _, vD, d1, rd2, false, [], [], [], false, ⟨hbk7, .nil w7, .nil w7, .nil w7⟩, HP6.out.gx BX6.out ho7, fun _ => rfl, Nat.le_refl _, Nat.le_refl _, Nat.le_refl _⟩
      have HG7 : Hid (Gk w w7) := HG6.out.trans (Gk.of1 BX6.out rfl HLOX.out ho7)
      clear ho7 hbk7
      go_wp2_with fail
      clear x0 x1 x2 x3 x4 x5 x6 x7 xf hw7
      go_loopw [11] (fun i wr => ∃ j : Nat, j ≤ s.size ∧ i = .int .i64 (j : Int) ∧ Hid (PSt j gx n wr) ∧ Hid (Gk w wr)) (fun i _ => s.size - (intOf i).toNat)
      case atStart => exact ⟨0, Nat.zero_le _, rfl, HST.out, HG7.out⟩
      case round =>
        obtain ⟨j, hj, rfl, HJ, HGJ⟩ := hrel
        have hev : EvAt wr := HGJ.out.1 HEE.out.1
        have hge : GE wr := HGJ.out.2.1 HEE.out.2
        have hlr : LO ≤ wr.heap.size := Nat.le_trans (Nat.le_of_eq HLOW.out) HGJ.out.2.2.size
        by_cases hjs : j < s.size
        · have q1 : (j : Int) < (s.size : Int) := by omega
          have hwj : IntKind.i64.wrap ((j : Int) + 1) = (j : Int) + 1 := IntWalk.i64_in _ (by omega)
          have HAC := Lib.hid (pact_any gx n j j s wr hjs (by omega) HJ.out HN.out (by omega) hev hge hlr HLOX.out)
          clear hev hge hlr
          go_wp2_with fail
          refine HAC.out.mono ?_
          rintro e w8 ⟨rfl, hst8, hg8⟩
          have HS8 := Lib.hid hst8
          have HG8 : Hid (Gk w w8) := HGJ.out.trans hg8
          clear hst8 hg8
          go_wp2_with fail
          exact ⟨⟨j + 1, by omega, by go_num, HS8.out, HG8.out⟩, by simp [intOf]; omega⟩
        · obtain rfl : j = s.size := by omega
          have q1 : ¬ (s.size : Int) < (s.size : Int) := by omega
          have q2 : decide ((s.size : Int) < (s.size : Int)) = false := decide_eq_false q1
          obtain ⟨g8, gT8, vn8, vs8, vx8, vD8, d8, rd8, b8, now8, safe8, next8, sv8, hm8, hp8, hsv8, a1, a2, a3⟩ := HJ.out
          have HOP := Lib.hid (popens_any [] none 0 hm8 hp8 hsv8 HN.out (by omega) (by omega) (fun c hc => by cases hc) (by simp) (.inl rfl) (fun p hp => by cases hp) hev hge hlr HLOX.out)
          clear hm8 hp8 hev hge hlr
          go_wp2_with fail
          refine HOP.out.mono ?_
          rintro e w9 ⟨rfl, _, _, _, _, _, _, _, _, _, _, _, hg9⟩
          have HG9 : Hid (Gk w w9) := HGJ.out.trans hg9
          clear hg9
          go_wp2_with fail
          go_ret
          exact ⟨rfl, HG9.out.2.2.toBelow (Nat.le_refl _) (fun k hk h => by have := HLOW.out; omega)⟩
end Go.Proofs.YtljmklohgpaopaaGreatDoor
