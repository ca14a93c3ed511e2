/- A tree: Open. A tree: Open, plain's. -/
import Derived.Test.YtljmklohgpaopaaGreatDoorMgPlanted23
set_option linter.unusedVariables false
set_option linter.unusedSimpArgs false

namespace Go.Proofs.YtljmklohgpaopaaGreatDoor
open Go.RowKit
set_option linter.unusedSectionVars false
variable [Inhabited LoT]

theorem slot_head (q a p : Nat) : (Pl.padded (slotT q a p)).headD 0 = 84 := rfl
theorem slot_seq {q : Nat} (a p : Nat) (h : q < 18446744073709551616) : Pl.num (((Pl.padded (slotT q a p)).drop 1).take 8) = q := by
  unfold Pl.padded slotT
  rw [List.cons_append, List.drop_succ_cons, List.drop_zero, List.append_assoc, List.append_assoc, List.take_left' (Pl.be_length 8 q)]
  exact Pl.num_be 8 q h
theorem tslot_at (q : Nat) {a : Nat} (p : Nat) (h : a < 4294967296) : Pl.num (((Pl.padded (slotT q a p)).drop 9).take 4) = a := by
  unfold Pl.padded slotT
  rw [List.cons_append, List.drop_succ_cons, List.append_assoc, List.append_assoc, List.drop_left' (Pl.be_length 8 q), List.take_left' (Pl.be_length 4 a)]
  exact Pl.num_be 4 a h
theorem slot_pages (q a : Nat) {p : Nat} (h : p < 4294967296) : Pl.num (((Pl.padded (slotT q a p)).drop 13).take 4) = p := by
  unfold Pl.padded slotT
  rw [List.cons_append, List.drop_succ_cons, List.append_assoc, List.drop_left' (by rw [List.length_append, Pl.be_length, Pl.be_length]), List.take_left' (Pl.be_length 4 p)]
  exact Pl.num_be 4 p h
/-- The slots tell of a tree that was saved. -/
structure SlotOk (d : Pl.Dk) (first n seq a p : Nat) : Prop where
  now : d.look (first + seq % 2) = some (Pl.padded (slotT seq a p))
  old : ∀ s, d.look (first + (seq + 1) % 2) = some s → s.headD 0 = 84 → Pl.num ((s.drop 1).take 8) < seq
  lo : 1 ≤ seq
  hi : seq < 18446744073709551616
  a1 : 2 ≤ a
  a2 : a < n
  p1 : 1 ≤ p
  p2 : p ≤ n
def opCells (g first n : Nat) (rv : Value) (q p : Nat) : List Value := [.pointer (some ⟨g, 0, none⟩), .int .i64 (first : Nat), .int .i64 (n : Nat), rv, .pointer none, .int .u64 (q : Nat), .int .i64 (p : Nat), .bool false]
/-- What is known when so many slots were looked at. -/
def OpRel (seq a p k : Nat) (w : World) (lo : Nat) (rv : Value) (q pp : Nat) : Prop :=
  (seq % 2 < k → q = seq ∧ pp = p ∧ ∃ r, lo ≤ r ∧ rv = .pointer (some ⟨r, 0, none⟩) ∧ RefAt w r a .nilIface) ∧ (¬ seq % 2 < k → q < seq)
def oF (gT g : Nat) (b : Nat) : Prop := b = gT ∨ b = g
theorem OpRel.only {F : Nat → Prop} {seq a p k : Nat} {w w' : World} {lo : Nat} {rv : Value} {q pp : Nat} (h : OpRel seq a p k w lo rv q pp) (ho : Only F w w') (hk : Kinds F w [158, 102]) : OpRel seq a p k w' lo rv q pp :=
  ⟨fun hs => by obtain ⟨e1, e2, r, e3, e4, e5⟩ := h.1 hs; exact ⟨e1, e2, r, e3, e4, ho.blk_ hk e5 (by decide)⟩, h.2⟩
/-- The slot that was looked at tells nothing new. -/
theorem OpRel.past {d : Pl.Dk} {first n seq a p k : Nat} {w : World} {lo : Nat} {rv : Value} {q pp : Nat} (h : OpRel seq a p k w lo rv q pp) (hne : seq % 2 ≠ k) : OpRel seq a p (k + 1) w lo rv q pp :=
  ⟨fun hs => h.1 (by omega), fun hs => h.2 (by omega)⟩
set_option maxRecDepth 100000 in
set_option maxHeartbeats 8000000 in
theorem topen1_any (gT gt bD bN g first n : Nat) (vD : Value) (d : Pl.Dk) (rd : Int) (seq a p : Nat) (w : World) (h : DiskAt w g vD d rd) (hl : d.life ≠ 0) (hs : SlotOk d first n seq a p) (hn : n ≤ 4096) (hn16 : 16 ≤ n) (hf : first + n ≤ d.secs.length)
    (hD : Blk w bD 42 [.pointer (some ⟨g, 0, none⟩)]) (hN : Blk w bN 3 [.int .i64 (n : Nat)]) (ht : Blk w gt 45 [.pointer (some ⟨gT, 0, none⟩)]) (hT : Blk w gT 158 (opCells g first n (.pointer none) 0 0)) :
    Calls Tryz.prog 82 #[.pointer (some ⟨bD, 0, none⟩), .pointer (some ⟨gt, 0, none⟩), .pointer (some ⟨bN, 0, none⟩)] w fun e w' => e = .returned (.tuple #[]) ∧ ∃ r rd', w.heap.size ≤ r ∧ Blk w' gT 158 (opCells g first n (.pointer (some ⟨r, 0, none⟩)) seq p) ∧ RefAt w' r a .nilIface ∧ DiskAt w' g vD d rd' ∧ RdK 2 rd rd' ∧ Only (oF gT g) w w' := by
  obtain ⟨wr0, sy0, hgb⟩ := h.blk
  have hK : Kinds (oF gT g) w [158, 102] := by
    rintro k (rfl | rfl)
    · exact ⟨_, by simp, hT.typ⟩
    · exact ⟨_, by simp, hgb.typ⟩
  have HDD := Lib.hid (dead_any g vD d rd w h)
  have hdl : Hid ((d.life == 0) = false) := by rw [Hid]; simp [hl]
  have hneT : g ≠ gT := fun e => by subst e; exact absurd (hT.uniqT hgb) (by decide)
  have HH := Lib.hid h
  have HL := Lib.hid hl
  have HS := Lib.hid hs
  have HD := Lib.hid hD
  have HN := Lib.hid hN
  have HT := Lib.hid ht
  have HTT := Lib.hid hT
  have HK := Lib.hid hK
  have HNT := Lib.hid hneT
  have cD : w.cell? ⟨bD, 0, none⟩ = some (.pointer (some ⟨g, 0, none⟩)) := hD.cell 0
  have hs2 : seq % 2 < 2 := by omega
  clear h hl hs hD hN ht hT hK hgb hneT
  go_enter Tryz.func82, Tryz.ntmps82
  go_wp2_with fail
  refine HDD.out.mono ?_
  rintro e w' ⟨rfl, rfl⟩
  rw [hdl.out]
  clear cD
  go_wp2_with fail
  go_loopw [11] (fun i W => ∃ (k : Nat) (rdk : Int) (rv : Value) (q pp : Nat), k ≤ 2 ∧ i = .int .i64 (k : Int) ∧ Hid (DiskAt W g vD d rdk) ∧ Hid (RdK k rd rdk) ∧ Hid (Blk W gT 158 (opCells g first n rv q pp)) ∧ Hid (Only (oF gT g) w W) ∧ Hid (OpRel seq a p k W w.heap.size rv q pp)) (fun i _ => 2 - (intOf i).toNat)
  case atStart => exact ⟨0, rd, .pointer none, 0, 0, by omega, rfl, HH.out, RdK.refl _ _, HTT.out, Only.refl _ _, ⟨fun h => absurd h (Nat.not_lt_zero _), fun _ => by have := HS.out.lo; omega⟩⟩
  case round =>
    obtain ⟨k, rdk, rv, q, pp, hk, rfl, HDk, HRk, HTk, HOk, HRel⟩ := hrel
    have cT : wr.cell? ⟨gt, 0, none⟩ = some (.pointer (some ⟨gT, 0, none⟩)) := (HOk.out.blk_ HK.out HT.out (by decide)).cell 0
    have cN : wr.cell? ⟨bN, 0, none⟩ = some (.int .i64 (n : Nat)) := (HOk.out.blk_ HK.out HN.out (by decide)).cell 0
    by_cases hk2 : k < 2
    · have HSEC := Lib.hid (tsectorB gT ⟨g, first, n, 0, none, 0, 0, false⟩ _ vD d rdk k wr HTk.out HDk.out (show first + k < d.secs.length by omega))
      have hwk : IntKind.i64.wrap ((k : Int) + 1) = (k : Int) + 1 := IntWalk.i64_in _ (by omega)
      have qk : (k : Int) < 2 := by omega
      clear cN
      go_wp2_with fail
      refine HSEC.out.mono ?_
      rintro e w2 ⟨hend, ⟨rd2, hd2, hrd2⟩, ho2⟩
      rcases hend with ⟨h0, _⟩ | ⟨_, rfl⟩
      · exact absurd h0 HL.out
      dsimp only at hd2 ho2 ⊢
      have hko : Kinds (· = g) wr [158, 102] := by
        obtain ⟨_, _, hgb⟩ := HDk.out.blk
        rintro x rfl
        exact ⟨_, by simp, hgb.typ⟩
      have HD2 := Lib.hid hd2
      have HO2 : Hid (Only (oF gT g) w w2) := HOk.out.trans' (ho2.mono (fun _ _ e => .inr e))
      have HT2 := Lib.hid (ho2.blk HTk.out (fun e => HNT.out e.symm))
      have HRel2 := Lib.hid (HRel.out.only ho2 hko)
      have HR2 : Hid (RdK (k + 1) rd rd2) := HRk.out.trans (fun h1 h2 => hrd2 h1 (by omega)) (Nat.le_refl _)
      have hT2 : w2.cell? ⟨gt, 0, none⟩ = some (.pointer (some ⟨gT, 0, none⟩)) := (HO2.out.blk_ HK.out HT.out (by decide)).cell 0
      clear hd2 ho2 hko cT hrd2
      cases hlk : d.look (first + k) with
      | none =>
        have hne : seq % 2 ≠ k := fun e => by have := HS.out.now; rw [e, hlk] at this; cases this
        have HRel3 := Lib.hid (HRel2.out.past (d := d) (first := first) (n := n) hne)
        clear hlk hne
        simp only [Option.getD_none, Option.isSome_none]
        go_wp2_with fail
        exact ⟨⟨k + 1, rd2, rv, q, pp, by omega, by go_num, HD2.out, HR2.out, HT2.out, HO2.out, HRel3.out⟩, by simp [intOf]; omega⟩
      | some s =>
        have hs256 := look_sized HD2.out hlk
        have hz := tstr_size s
        obtain ⟨c, hc⟩ : ∃ c, s.headD 0 = c := ⟨_, rfl⟩
        have hd : ∀ (h' : 0 < (tstr s).size), (tstr s)[0] = c := by
          intro h'
          match s, hs256 with
          | x :: r, _ => exact hc
        have HLK := Lib.hid hlk
        have HC := Lib.hid hc
        simp only [Option.getD_some, Option.isSome_some]
        clear hlk hc
        by_cases hcc : c = 84
        · subst hcc
          have q0 : ((84 : UInt8).toNat : Int) = 84 := by decide
          have m1 := fun w => run_str_mid w s 1 9 1 8 rfl rfl (by omega)
          have m2 := fun w => run_str_mid w s 9 13 9 4 rfl rfl (by omega)
          have m3 := fun w => run_str_mid w s 13 17 13 4 rfl rfl (by omega)
          have hl1 : ((s.drop 1).take 8).length ≤ 8 := List.length_take_le _ _
          have hl2 : ((s.drop 9).take 4).length ≤ 4 := List.length_take_le _ _
          have hl3 : ((s.drop 13).take 4).length ≤ 4 := List.length_take_le _ _
          have G1 := fun W => getS_any ((s.drop 1).take 8) W hl1
          have G2 := fun W => getS_any ((s.drop 9).take 4) W (by omega)
          have G3 := fun W => getS_any ((s.drop 13).take 4) W (by omega)
          have hx2 : Pl.num ((s.drop 9).take 4) < 4294967296 := Nat.lt_of_lt_of_le (Pl.num_lt _) (Nat.pow_le_pow_right (by omega) hl2)
          have hx3 : Pl.num ((s.drop 13).take 4) < 4294967296 := Nat.lt_of_lt_of_le (Pl.num_lt _) (Nat.pow_le_pow_right (by omega) hl3)
          obtain ⟨x, hx⟩ : ∃ x, Pl.num ((s.drop 1).take 8) = x := ⟨_, rfl⟩
          obtain ⟨a2, ha2⟩ : ∃ x, Pl.num ((s.drop 9).take 4) = x := ⟨_, rfl⟩
          obtain ⟨p2, hp2⟩ : ∃ x, Pl.num ((s.drop 13).take 4) = x := ⟨_, rfl⟩
          rw [hx] at G1
          rw [ha2] at G2 hx2
          rw [hp2] at G3 hx3
          have HG1 := Lib.hid G1
          have HG2 := Lib.hid G2
          have HG3 := Lib.hid G3
          have HX := Lib.hid (And.intro hx (And.intro ha2 hp2))
          obtain ⟨z1, hz1⟩ : ∃ z, tstr ((s.drop 1).take 8) = z := ⟨_, rfl⟩
          obtain ⟨z2, hz2⟩ : ∃ z, tstr ((s.drop 9).take 4) = z := ⟨_, rfl⟩
          obtain ⟨z3, hz3⟩ : ∃ z, tstr ((s.drop 13).take 4) = z := ⟨_, rfl⟩
          rw [hz1] at m1 HG1
          rw [hz2] at m2 HG2
          rw [hz3] at m3 HG3
          have c5 : w2.cell? ⟨gT, 5, none⟩ = some (.int .u64 (q : Nat)) := HT2.out.cell 5
          have f5 : w2.frozen? ⟨gT, 5, none⟩ = false := HT2.out.frozen 5
          clear hl1 hl2 hl3 G1 G2 G3 hx ha2 hp2 hz1 hz2 hz3
          by_cases hqx : q < x
          · have q5 : (x : Int) > (q : Int) := by omega
            obtain ⟨w3, hw3⟩ : ∃ y, w2.setCell ⟨gT, 5, none⟩ (.int .u64 (x : Nat)) = y := ⟨_, rfl⟩
            have hT3 : Blk w3 gT 158 (opCells g first n rv x pp) := by rw [← hw3]; exact HT2.out.set_ 5 _
            have ho3 : Only (oF gT g) w w3 := by rw [← hw3]; exact HO2.out.setCell (p := ⟨gT, 5, none⟩) (.inl (.inl rfl)) _
            have hB3 := ho3.blk_ HK.out HT.out (by decide)
            have d3 : w3.cell? ⟨gt, 0, none⟩ = some (.pointer (some ⟨gT, 0, none⟩)) := hB3.cell 0
            have D3 := Lib.hid d3
            have hwa : IntKind.i64.wrap (a2 : Int) = (a2 : Int) := IntWalk.i64_in _ (by omega)
            have hwp : IntKind.i64.wrap (p2 : Int) = (p2 : Int) := IntWalk.i64_in _ (by omega)
            obtain ⟨r, hr⟩ : ∃ y, w3.heap.size = y := ⟨_, rfl⟩
            obtain ⟨w4, hw4⟩ : ∃ y, w3.drew.alloc (.cells #[.int .i64 (a2 : Nat), .nilIface] 168) = y := ⟨_, rfl⟩
            have hb4 : Below w3.heap.size w3 w4 := by rw [← hw4]; exact ((Below.refl w3.heap.size w3).drew).alloc (Nat.le_refl _) _
            have hR4 : RefAt w4 r a2 .nilIface := by rw [← hw4, ← hr]; exact Blk.new w3.drew 168 _
            have hT4 := hT3.below hb4 hT3.lt
            have hB4 := hB3.below hb4 hB3.lt
            have D4 : Hid (w4.cell? ⟨gt, 0, none⟩ = some (.pointer (some ⟨gT, 0, none⟩))) := hB4.cell 0
            have f4 : w4.frozen? ⟨gT, 3, none⟩ = false := hT4.frozen 3
            have c43 : w4.cell? ⟨gT, 3, none⟩ = some rv := hT4.cell 3
            have hgne : gt ≠ gT := hB4.ne hT4 (by decide)
            have hrne : r ≠ gT := hR4.ne hT4 (by decide)
            obtain ⟨w5, hw5⟩ : ∃ y, w4.setCell ⟨gT, 3, none⟩ (.pointer (some ⟨r, 0, none⟩)) = y := ⟨_, rfl⟩
            have hT5 : Blk w5 gT 158 (opCells g first n (.pointer (some ⟨r, 0, none⟩)) x pp) := by rw [← hw5]; exact hT4.set_ 3 _
            have ho5 : Only (· = gT) w4 w5 := by rw [← hw5]; exact (Only.refl (· = gT) w4).setCell (p := ⟨gT, 3, none⟩) (.inl rfl) _
            have hB5 := ho5.blk hB4 hgne
            have hR5 := ho5.blk hR4 hrne
            have D5 : Hid (w5.cell? ⟨gt, 0, none⟩ = some (.pointer (some ⟨gT, 0, none⟩))) := hB5.cell 0
            have f5' : w5.frozen? ⟨gT, 6, none⟩ = false := hT5.frozen 6
            have c56 : w5.cell? ⟨gT, 6, none⟩ = some (.int .i64 (pp : Nat)) := hT5.cell 6
            obtain ⟨w6, hw6⟩ : ∃ y, w5.drew.setCell ⟨gT, 6, none⟩ (.int .i64 (p2 : Nat)) = y := ⟨_, rfl⟩
            have hT6 : Blk w6 gT 158 (opCells g first n (.pointer (some ⟨r, 0, none⟩)) x p2) := by rw [← hw6]; exact (show Blk w5.drew gT 158 _ from hT5).set_ 6 _
            have ho6 : Only (· = gT) w5 w6 := by rw [← hw6]; exact ((Only.refl (· = gT) w5).drew).setCell (p := ⟨gT, 6, none⟩) (.inl rfl) _
            have hB6 := ho6.blk hB5 hgne
            have hR6 := ho6.blk hR5 hrne
            have D6 : Hid (w6.cell? ⟨gt, 0, none⟩ = some (.pointer (some ⟨gT, 0, none⟩))) := hB6.cell 0
            have hoT : Only (· = gT) w2 w6 := by
              have h1 : Only (· = gT) w2 w3 := by rw [← hw3]; exact (Only.refl (· = gT) w2).setCell (p := ⟨gT, 5, none⟩) (.inl rfl) _
              exact ((h1.below hb4).trans' (ho5.mono (fun _ _ e => e)) |>.trans' (ho6.mono (fun _ _ e => e)))
            have hlo : w.heap.size ≤ r := by rw [← hr]; exact ho3.size
            have hrel : OpRel seq a p (k + 1) w6 w.heap.size (.pointer (some ⟨r, 0, none⟩)) x p2 := by
              have hk3 : k = seq % 2 ∨ k = (seq + 1) % 2 := by omega
              rcases hk3 with e | e
              · have h1 := HS.out.now
                rw [← e, HLK.out] at h1
                injection h1 with h1
                have e1 : x = seq := by rw [← HX.out.1, h1]; exact slot_seq a p HS.out.hi
                have e2 : a2 = a := by rw [← HX.out.2.1, h1]; exact tslot_at seq p (by have := HS.out.a2; omega)
                have e3 : p2 = p := by rw [← HX.out.2.2, h1]; exact slot_pages seq a (by have := HS.out.p2; omega)
                exact ⟨fun _ => ⟨e1, e3, r, hlo, rfl, by rw [← e2]; exact hR6⟩, fun hn => absurd (show seq % 2 < k + 1 by omega) hn⟩
              · have h1 := HS.out.old s (by rw [← e]; exact HLK.out) HC.out
                rw [HX.out.1] at h1
                refine ⟨fun hn => ?_, fun _ => h1⟩
                have h2 := (HRel2.out.1 (by omega)).1
                omega
            have HT6 := Lib.hid hT6
            have HOT := Lib.hid hoT
            have HREL := Lib.hid hrel
            have HD6 := Lib.hid (HD2.out.only_ hoT (one_kinds HT2.out) (by decide) (by decide))
            clear hT3 ho3 hB3 hb4 hR4 hT4 hB4 hgne hrne hT5 ho5 hB5 hR5 hT6 ho6 hB6 hR6 hoT hlo hrel
            go_wp2_with fail
            refine (HG1.out _).mono ?_
            rintro e w' ⟨rfl, rfl⟩
            go_wp2_with fail
            clear d3
            refine wp_region_L 9 (fun _ => True) (fun W => W.cell? ⟨gt, 0, none⟩ = some (.pointer (some ⟨gT, 0, none⟩))) (by kernel_rfl) trivial D3.out (fun hTill => ?_)
            refine wpL_take' (i := 0) (oi := _) (v := ?_) rfl (by kernel_rfl) (by kernel_rfl) (by kernel_rfl) (by kernel_rfl) (fun _ _ _ h => h) (.inl ⟨by rfl, ?_⟩) (by assumption) ?_
            rotate_left
            · intro W hSw
              (try dsimp only at hSw)
              go_simp
              (try rfl)
            (try simp only [Act.put, List.getElem_toArray, List.getElem_cons_succ, List.getElem_cons_zero, List.setIfInBounds_toArray, List.set_cons_zero, List.set_cons_succ])
            refine wpL_take' (i := 1) (oi := _) (v := ?_) rfl (by kernel_rfl) (by kernel_rfl) (by kernel_rfl) (by kernel_rfl) (fun _ _ _ h => h) (.inl ⟨by rfl, ?_⟩) (by assumption) ?_
            rotate_left
            · intro W hSw
              (try dsimp only at hSw)
              go_simp
              (try rfl)
            (try simp only [Act.put, List.getElem_toArray, List.getElem_cons_succ, List.getElem_cons_zero, List.setIfInBounds_toArray, List.set_cons_zero, List.set_cons_succ])
            refine wpL_take' (i := 2) (oi := _) (v := ?_) rfl (by kernel_rfl) (by kernel_rfl) (by kernel_rfl) (by kernel_rfl) (fun _ _ _ h => h) (.inl ⟨by rfl, ?_⟩) (by assumption) ?_
            rotate_left
            · intro W hSw
              (try dsimp only at hSw)
              go_simp
              (try rfl)
            (try simp only [Act.put, List.getElem_toArray, List.getElem_cons_succ, List.getElem_cons_zero, List.setIfInBounds_toArray, List.set_cons_zero, List.set_cons_succ])
            refine wpL_ready (rs := [3]) (by kernel_rfl) (by simp) ?_
            refine AllL.cons (o := _) rfl (fun K hK => ?_) AllL.nil
            go_simp
            refine (HG2.out _).mono ?_
            rintro e w' ⟨rfl, rfl⟩
            go_wp2_with fail
            refine hK.out _ _ ⟨fun _ => trivial, D3.out⟩ (fun hTill => ?_)
            clear hK K
            (try simp only [Act.put, List.getElem_toArray, List.getElem_cons_succ, List.getElem_cons_zero, List.setIfInBounds_toArray, List.set_cons_zero, List.set_cons_succ])
            refine wpL_take' (i := 4) (oi := _) (v := ?_) rfl (by kernel_rfl) (by kernel_rfl) (by kernel_rfl) (by kernel_rfl) (fun _ _ _ h => h) (.inl ⟨by rfl, ?_⟩) (by assumption) ?_
            rotate_left
            · intro W hSw
              (try dsimp only at hSw)
              go_simp
              (try rfl)
            (try simp only [Act.put, List.getElem_toArray, List.getElem_cons_succ, List.getElem_cons_zero, List.setIfInBounds_toArray, List.set_cons_zero, List.set_cons_succ])
            refine wpL_take' (i := 5) (oi := _) (v := ?_) rfl (by kernel_rfl) (by kernel_rfl) (by kernel_rfl) (by kernel_rfl) (fun _ _ _ h => h) (.inl ⟨by rfl, ?_⟩) (by assumption) ?_
            rotate_left
            · intro W hSw
              (try dsimp only at hSw)
              go_simp
              (try rfl)
            (try simp only [Act.put, List.getElem_toArray, List.getElem_cons_succ, List.getElem_cons_zero, List.setIfInBounds_toArray, List.set_cons_zero, List.set_cons_succ])
            refine wpL_ready (rs := [6]) (by kernel_rfl) (by simp) ?_
            refine AllL.cons (o := _) rfl (fun K hK => ?_) AllL.nil
            go_simp
            refine hK.out _ _ ⟨fun _ => trivial, D4.out⟩ (fun hTill => ?_)
            clear hK K
            (try simp only [Act.put, List.getElem_toArray, List.getElem_cons_succ, List.getElem_cons_zero, List.setIfInBounds_toArray, List.set_cons_zero, List.set_cons_succ])
            refine wpL_take' (i := 7) (oi := _) (v := ?_) rfl (by kernel_rfl) (by kernel_rfl) (by kernel_rfl) (by kernel_rfl) (fun _ _ _ h => h) (.inl ⟨by rfl, ?_⟩) (by assumption) ?_
            rotate_left
            · intro W hSw
              (try dsimp only at hSw)
              go_simp
              (try rfl)
            (try simp only [Act.put, List.getElem_toArray, List.getElem_cons_succ, List.getElem_cons_zero, List.setIfInBounds_toArray, List.set_cons_zero, List.set_cons_succ])
            refine wpL_take' (i := 8) (oi := _) (v := ?_) rfl (by kernel_rfl) (by kernel_rfl) (by kernel_rfl) (by kernel_rfl) (fun _ _ _ h => h) (.inl ⟨by rfl, ?_⟩) (by assumption) ?_
            rotate_left
            · intro W hSw
              (try dsimp only at hSw)
              go_simp
              (try rfl)
            (try simp only [Act.put, List.getElem_toArray, List.getElem_cons_succ, List.getElem_cons_zero, List.setIfInBounds_toArray, List.set_cons_zero, List.set_cons_succ])
            refine wpL_ready (rs := [9]) (by kernel_rfl) (by simp) ?_
            refine AllL.cons (o := _) rfl (fun K hK => ?_) AllL.nil
            go_simp
            refine hK.out _ _ ⟨fun _ => trivial, D5.out⟩ (fun hTill => ?_)
            clear hK K
            (try simp only [Act.put, List.getElem_toArray, List.getElem_cons_succ, List.getElem_cons_zero, List.setIfInBounds_toArray, List.set_cons_zero, List.set_cons_succ])
            refine wpL_done (by kernel_rfl) ?_ _
            clear hTill
            go_wp2_with fail
            refine wp_region_L 7 (fun _ => True) (fun W => W.cell? ⟨gt, 0, none⟩ = some (.pointer (some ⟨gT, 0, none⟩))) (by kernel_rfl) trivial D5.out (fun hTill => ?_)
            refine wpL_take' (i := 0) (oi := _) (v := ?_) rfl (by kernel_rfl) (by kernel_rfl) (by kernel_rfl) (by kernel_rfl) (fun _ _ _ h => h) (.inl ⟨by rfl, ?_⟩) (by assumption) ?_
            rotate_left
            · intro W hSw
              (try dsimp only at hSw)
              go_simp
              (try rfl)
            (try simp only [Act.put, List.getElem_toArray, List.getElem_cons_succ, List.getElem_cons_zero, List.setIfInBounds_toArray, List.set_cons_zero, List.set_cons_succ])
            refine wpL_take' (i := 1) (oi := _) (v := ?_) rfl (by kernel_rfl) (by kernel_rfl) (by kernel_rfl) (by kernel_rfl) (fun _ _ _ h => h) (.inl ⟨by rfl, ?_⟩) (by assumption) ?_
            rotate_left
            · intro W hSw
              (try dsimp only at hSw)
              go_simp
              (try rfl)
            (try simp only [Act.put, List.getElem_toArray, List.getElem_cons_succ, List.getElem_cons_zero, List.setIfInBounds_toArray, List.set_cons_zero, List.set_cons_succ])
            refine wpL_take' (i := 2) (oi := _) (v := ?_) rfl (by kernel_rfl) (by kernel_rfl) (by kernel_rfl) (by kernel_rfl) (fun _ _ _ h => h) (.inl ⟨by rfl, ?_⟩) (by assumption) ?_
            rotate_left
            · intro W hSw
              (try dsimp only at hSw)
              go_simp
              (try rfl)
            (try simp only [Act.put, List.getElem_toArray, List.getElem_cons_succ, List.getElem_cons_zero, List.setIfInBounds_toArray, List.set_cons_zero, List.set_cons_succ])
            refine wpL_ready (rs := [3]) (by kernel_rfl) (by simp) ?_
            refine AllL.cons (o := _) rfl (fun K hK => ?_) AllL.nil
            go_simp
            refine (HG3.out _).mono ?_
            rintro e w' ⟨rfl, rfl⟩
            go_wp2_with fail
            refine hK.out _ _ ⟨fun _ => trivial, D5.out⟩ (fun hTill => ?_)
            clear hK K
            (try simp only [Act.put, List.getElem_toArray, List.getElem_cons_succ, List.getElem_cons_zero, List.setIfInBounds_toArray, List.set_cons_zero, List.set_cons_succ])
            refine wpL_take' (i := 4) (oi := _) (v := ?_) rfl (by kernel_rfl) (by kernel_rfl) (by kernel_rfl) (by kernel_rfl) (fun _ _ _ h => h) (.inl ⟨by rfl, ?_⟩) (by assumption) ?_
            rotate_left
            · intro W hSw
              (try dsimp only at hSw)
              go_simp
              (try rfl)
            (try simp only [Act.put, List.getElem_toArray, List.getElem_cons_succ, List.getElem_cons_zero, List.setIfInBounds_toArray, List.set_cons_zero, List.set_cons_succ])
            refine wpL_take' (i := 5) (oi := _) (v := ?_) rfl (by kernel_rfl) (by kernel_rfl) (by kernel_rfl) (by kernel_rfl) (fun _ _ _ h => h) (.inl ⟨by rfl, ?_⟩) (by assumption) ?_
            rotate_left
            · intro W hSw
              (try dsimp only at hSw)
              go_simp
              (try rfl)
            (try simp only [Act.put, List.getElem_toArray, List.getElem_cons_succ, List.getElem_cons_zero, List.setIfInBounds_toArray, List.set_cons_zero, List.set_cons_succ])
            refine wpL_take' (i := 6) (oi := _) (v := ?_) rfl (by kernel_rfl) (by kernel_rfl) (by kernel_rfl) (by kernel_rfl) (fun _ _ _ h => h) (.inl ⟨by rfl, ?_⟩) (by assumption) ?_
            rotate_left
            · intro W hSw
              (try dsimp only at hSw)
              go_simp
              (try rfl)
            (try simp only [Act.put, List.getElem_toArray, List.getElem_cons_succ, List.getElem_cons_zero, List.setIfInBounds_toArray, List.set_cons_zero, List.set_cons_succ])
            refine wpL_ready (rs := [7]) (by kernel_rfl) (by simp) ?_
            refine AllL.cons (o := _) rfl (fun K hK => ?_) AllL.nil
            go_simp
            refine hK.out _ _ ⟨fun _ => trivial, D6.out⟩ (fun hTill => ?_)
            clear hK K
            (try simp only [Act.put, List.getElem_toArray, List.getElem_cons_succ, List.getElem_cons_zero, List.setIfInBounds_toArray, List.set_cons_zero, List.set_cons_succ])
            refine wpL_done (by kernel_rfl) ?_ _
            clear hTill
            go_wp2_with fail
            exact ⟨⟨k + 1, rd2, .pointer (some ⟨r, 0, none⟩), x, p2, by omega, by go_num, HD6.out, HR2.out, HT6.out, HO2.out.trans' (HOT.out.mono (fun _ _ e => .inl e)), HREL.out⟩, by simp [intOf]; omega⟩
          · have q5 : ¬ (x : Int) > (q : Int) := by omega
            have q6 : decide ((x : Int) > (q : Int)) = false := decide_eq_false q5
            have hne : seq % 2 ≠ k := fun e => by
              have h1 := HS.out.now
              rw [e, HLK.out] at h1
              injection h1 with h1
              have h2 : x = seq := by rw [← HX.out.1, h1]; exact slot_seq a p HS.out.hi
              have h3 := HRel2.out.2 (by omega)
              omega
            have HRel3 := Lib.hid (HRel2.out.past (d := d) (first := first) (n := n) hne)
            clear hne
            go_wp2_with fail
            refine (HG1.out _).mono ?_
            rintro e w' ⟨rfl, rfl⟩
            go_wp2_with fail
            exact ⟨⟨k + 1, rd2, rv, q, pp, by omega, by go_num, HD2.out, HR2.out, HT2.out, HO2.out, HRel3.out⟩, by simp [intOf]; omega⟩
        · have q0 : ((c.toNat : Int) != 84) = true := by
            have : c.toNat ≠ 84 := fun h => hcc (UInt8.toNat_inj.1 h)
            simp
            omega
          have hne : seq % 2 ≠ k := fun e => by
            have h1 := HS.out.now
            rw [e, HLK.out] at h1
            injection h1 with h1
            have h2 := HC.out
            rw [h1, slot_head] at h2
            exact hcc h2.symm
          have HRel3 := Lib.hid (HRel2.out.past (d := d) (first := first) (n := n) hne)
          clear hne
          go_wp2_with fail
          exact ⟨⟨k + 1, rd2, rv, q, pp, by omega, by go_num, HD2.out, HR2.out, HT2.out, HO2.out, HRel3.out⟩, by simp [intOf]; omega⟩
    · obtain rfl : k = 2 := by omega
      obtain ⟨rfl, rfl, r, hlo, rfl, hR⟩ := HRel.out.1 hs2
      have c3 : wr.cell? ⟨gT, 3, none⟩ = some (.pointer (some ⟨r, 0, none⟩)) := HTk.out.cell 3
      have c6 : wr.cell? ⟨gT, 6, none⟩ = some (.int .i64 (pp : Nat)) := HTk.out.cell 6
      have cr : wr.cell? ⟨r, 0, none⟩ = some (.int .i64 (a : Nat)) := hR.cell 0
      have q1 : ¬ (a : Int) < 2 := by have := HS.out.a1; omega
      have q1' : decide ((a : Int) < 2) = false := decide_eq_false q1
      have q2 : ¬ (a : Int) ≥ (n : Int) := by have := HS.out.a2; omega
      have q2' : decide ((a : Int) ≥ (n : Int)) = false := decide_eq_false q2
      have q2a : ¬ (n : Int) ≤ (a : Int) := by have := HS.out.a2; omega
      have q2b : decide ((n : Int) ≤ (a : Int)) = false := decide_eq_false q2a
      have q4a : ¬ (n : Int) < (pp : Int) := by have := HS.out.p2; omega
      have q4b : decide ((n : Int) < (pp : Int)) = false := decide_eq_false q4a
      have q2c : decide (n ≤ a) = false := decide_eq_false (by have := HS.out.a2; omega)
      have q4c : decide (n < pp) = false := decide_eq_false (by have := HS.out.p2; omega)
      have q3c : decide (pp < 1) = false := decide_eq_false (by have := HS.out.p1; omega)
      have q3 : ¬ (pp : Int) < 1 := by have := HS.out.p1; omega
      have q3' : decide ((pp : Int) < 1) = false := decide_eq_false q3
      have q4 : ¬ (pp : Int) > (n : Int) := by have := HS.out.p2; omega
      have q4' : decide ((pp : Int) > (n : Int)) = false := decide_eq_false q4
      have HR := Lib.hid hR
      have HLO := Lib.hid hlo
      clear hR hlo
      go_wp2_with fail
      go_quiet (fail)
      go_wp2_with fail
      go_end0
      exact ⟨rfl, r, rdk, HLO.out, HTk.out, HR.out, HDk.out.below (((Only.refl (fun _ => False) wr).drewN _).toBelow (Nat.le_refl _) (fun _ _ => id)), HRk.out, HOk.out.drewN _⟩
end Go.Proofs.YtljmklohgpaopaaGreatDoor

namespace Go.Proofs.YtljmklohgpaopaaGreatDoor
open Go.RowKit
set_option linter.unusedSectionVars false
variable [Inhabited LoT]

theorem off_disk {w : World} {g : Nat} {v : Value} {d : Pl.Dk} {rd : Int} (hd : DiskAt w g v d rd) {k : Nat} {s : Value} (h1 : w.cell? ⟨k, 0, none⟩ = some s) (h2 : plainV s = true) : k ≠ g := fun hf => by
  obtain ⟨_, _, hgb⟩ := hd.blk
  obtain ⟨A, cap, hv, _⟩ := own_src hd.own
  have hg0 : w.cell? ⟨g, 0, none⟩ = some v := hgb.cell 0
  subst hf
  rw [hg0] at h1
  injection h1 with h1
  subst h1
  rw [hv] at h2
  cases h2
theorem GE.off {w : World} {g : Nat} {v : Value} {d : Pl.Dk} {rd : Int} (h : GE w) (hd : DiskAt w g v d rd) : 1 ≠ g := off_disk hd h rfl
theorem EvAt.off {w : World} {g : Nat} {v : Value} {d : Pl.Dk} {rd : Int} (h : EvAt w) (hd : DiskAt w g v d rd) : 0 ≠ g := off_disk hd h.1 rfl
/-- What Open leaves. -/
def OpdPost (gT g first n : Nat) (vD : Value) (d : Pl.Dk) (rd : Int) (seq a p r : Nat) (w w' : World) : Prop :=
  w.heap.size ≤ gT ∧ w.heap.size ≤ r ∧ TmAt w' gT ⟨g, first, n, r, some r, seq, p, false⟩ ∧ RefAt w' r a .nilIface ∧ (∃ rd', DiskAt w' g vD d rd' ∧ RdK 2 rd rd') ∧ Only (· = g) w w'
theorem OpdPost.before {gT g first n : Nat} {vD : Value} {d : Pl.Dk} {rd : Int} {seq a p r : Nat} {w0 w w' : World} (h : OpdPost gT g first n vD d rd seq a p r w w') (hb : Below w0.heap.size w0 w) : OpdPost gT g first n vD d rd seq a p r w0 w' :=
  ⟨Nat.le_trans hb.size h.1, Nat.le_trans hb.size h.2.1, h.2.2.1, h.2.2.2.1, h.2.2.2.2.1, (Only.of_below hb (· = g)).trans' h.2.2.2.2.2⟩
theorem OpdPost.only {gT g first n : Nat} {vD : Value} {d : Pl.Dk} {rd : Int} {seq a p r : Nat} {w w' w'' : World} {F : Nat → Prop} (h : OpdPost gT g first n vD d rd seq a p r w w') (ho : Only F w' w'') (hk : Kinds F w' [83, 28]) (hF : ∀ x, x < w.heap.size → ¬ F x) : OpdPost gT g first n vD d rd seq a p r w w'' := by
  obtain ⟨h1, h2, h3, h4, ⟨rd', h5, h6⟩, h7⟩ := h
  exact ⟨h1, h2, ho.blk_ hk h3 (by decide), ho.blk_ hk h4 (by decide), ⟨rd', h5.only_ ho hk (by decide) (by decide), h6⟩, h7.trans ho (fun x hx hf => absurd hf (hF x hx))⟩
theorem enters_open1 (caps : Array Value) (W : World) : (callFunc 82 caps).run Tryz.prog W = .ok (.enter 82 caps) W := by simp [go_sem]
set_option maxRecDepth 100000 in
set_option maxHeartbeats 4000000 in
theorem topen_any (g first n : Nat) (vD : Value) (d : Pl.Dk) (rd : Int) (seq a p : Nat) (w : World) (h : DiskAt w g vD d rd) (hl : d.life ≠ 0) (hs : SlotOk d first n seq a p) (hn : n ≤ 4096) (hn16 : 16 ≤ n) (hf : first + n ≤ d.secs.length) :
    Calls Tryz.prog 45 #[.pointer (some ⟨g, 0, none⟩), .int .i64 (first : Nat), .int .i64 (n : Nat)] w fun e w' => ∃ gT r, e = .returned (.tuple #[.pointer (some ⟨gT, 0, none⟩), .nilIface]) ∧ OpdPost gT g first n vD d rd seq a p r w w' := by
  obtain ⟨bD, hbD⟩ : ∃ g, w.heap.size = g := ⟨_, rfl⟩
  obtain ⟨w1, hw1⟩ : ∃ x, w.alloc (.cells #[.pointer (some ⟨g, 0, none⟩)] 42) = x := ⟨_, rfl⟩
  have hb1 : Below w.heap.size w w1 := by rw [← hw1]; exact (Below.refl _ _).alloc (Nat.le_refl _) _
  have B1 : Blk w1 bD 42 [.pointer (some ⟨g, 0, none⟩)] := by rw [← hw1, ← hbD]; exact Blk.new w 42 _
  obtain ⟨bN, hbN⟩ : ∃ g, w1.heap.size = g := ⟨_, rfl⟩
  obtain ⟨w2, hw2⟩ : ∃ x, w1.alloc (.cells #[.int .i64 (n : Nat)] 3) = x := ⟨_, rfl⟩
  have hb2 : Below w1.heap.size w1 w2 := by rw [← hw2]; exact (Below.refl _ _).alloc (Nat.le_refl _) _
  have B2 : Blk w2 bN 3 [.int .i64 (n : Nat)] := by rw [← hw2, ← hbN]; exact Blk.new w1 3 _
  have hb12 := hb1.trans (hb2.mono hb1.size)
  have B12 := B1.below hb2 B1.lt
  have HP := Lib.hid (tplaced_any g vD d rd first n w2 (h.below hb12) hn16 hf)
  obtain ⟨gT, hgT⟩ : ∃ g, w2.heap.size = g := ⟨_, rfl⟩
  obtain ⟨w3, hw3⟩ : ∃ x, w2.alloc (.cells #[.pointer (some ⟨g, 0, none⟩), .int .i64 (first : Nat), .int .i64 (n : Nat), .pointer none, .pointer none, .int .u64 0, .int .i64 0, .bool false] 158) = x := ⟨_, rfl⟩
  have hb3 : Below w2.heap.size w2 w3 := by rw [← hw3]; exact (Below.refl _ _).alloc (Nat.le_refl _) _
  have B3 : Blk w3 gT 158 (opCells g first n (.pointer none) 0 0) := by rw [← hw3, ← hgT]; exact Blk.new w2 158 _
  obtain ⟨gt, hgt⟩ : ∃ g, w3.heap.size = g := ⟨_, rfl⟩
  obtain ⟨w4, hw4⟩ : ∃ x, w3.alloc (.cells #[.pointer (some ⟨gT, 0, none⟩)] 45) = x := ⟨_, rfl⟩
  have hb4 : Below w3.heap.size w3 w4 := by rw [← hw4]; exact (Below.refl _ _).alloc (Nat.le_refl _) _
  have B4 : Blk w4 gt 45 [.pointer (some ⟨gT, 0, none⟩)] := by rw [← hw4, ← hgt]; exact Blk.new w3 45 _
  have hb34 := hb3.trans (hb4.mono hb3.size)
  have hb14 := hb12.trans (hb34.mono hb12.size)
  have hgTw : w.heap.size ≤ gT := by rw [← hgT]; exact hb12.size
  have HGD : Hid (Calls Tryz.prog 77 #[.func (.func 82) #[] #[.pointer (some ⟨bD, 0, none⟩), .pointer (some ⟨gt, 0, none⟩), .pointer (some ⟨bN, 0, none⟩)]] w4 fun e w' => e = .returned .nilIface ∧ ∃ r rd', w.heap.size ≤ r ∧ Blk w' gT 158 (opCells g first n (.pointer (some ⟨r, 0, none⟩)) seq p) ∧ RefAt w' r a .nilIface ∧ DiskAt w' g vD d rd' ∧ RdK 2 rd rd' ∧ Only (oF gT g) w4 w') := by
    obtain ⟨W1, hW1⟩ : ∃ x, w4.alloc (.cells #[.nilIface] 83) = x := ⟨_, rfl⟩
    have hbe : Below w4.heap.size w4 W1 := by rw [← hW1]; exact (Below.refl _ _).alloc (Nat.le_refl _) _
    have he : Blk W1 w4.heap.size 83 [.nilIface] := by rw [← hW1]; exact Blk.new w4 83 _
    have hba := hb14.trans (hbe.mono hb14.size)
    have hb4e := hb34.trans (hbe.mono hb34.size)
    have hd1 := h.below hba
    have hp := topen1_any gT gt bD bN g first n vD d rd seq a p W1 hd1 hl hs hn hn16 hf (B12.below hb4e B12.lt) (B2.below hb4e B2.lt) (B4.below hbe B4.lt) ((B3.below hb4 B3.lt).below hbe (B3.below hb4 B3.lt).lt)
    have hkk : Kinds (oF gT g) W1 [158, 102] := by
      obtain ⟨_, _, hgb⟩ := hd1.blk
      rintro k (rfl | rfl)
      · exact ⟨_, by simp, ((B3.below hb4 B3.lt).below hbe (B3.below hb4 B3.lt).lt).typ⟩
      · exact ⟨_, by simp, hgb.typ⟩
    refine (tguardedK 82 #[.pointer (some ⟨bD, 0, none⟩), .pointer (some ⟨gt, 0, none⟩), .pointer (some ⟨bN, 0, none⟩)] w4 (fun k w' => k = 0 ∧ Blk w' w4.heap.size 83 [.nilIface] ∧ ∃ r rd', w.heap.size ≤ r ∧ Blk w' gT 158 (opCells g first n (.pointer (some ⟨r, 0, none⟩)) seq p) ∧ RefAt w' r a .nilIface ∧ DiskAt w' g vD d rd' ∧ RdK 2 rd rd' ∧ Only (oF gT g) w4 w') (enters_open1 _) ?_).mono ?_
    · rw [hW1]
      refine hp.mono ?_
      rintro e w' ⟨rfl, r, rd', q1, q2, q3, q4, q5, q6⟩
      have hbk := q6.blk_ hkk he (by decide)
      exact ⟨hbk, 0, .inl ⟨rfl, rfl⟩, rfl, hbk, r, rd', Nat.le_trans hba.size q1, q2, q3, q4, q5, (Only.of_below hbe (oF gT g)).trans' q6⟩
    · rintro e w'' ⟨k, w', _, ⟨rfl, hbk, r, rd', q1, q2, q3, q4, q5, q6⟩, ho, rfl⟩
      have hke := one_kinds hbk
      exact ⟨rfl, r, rd', q1, ho.blk_ hke q2 (by decide), ho.blk_ hke q3 (by decide), q4.only_ ho hke (by decide) (by decide), q5, q6.trans ho (fun x hx e => by omega)⟩
  have HB14 := Lib.hid hb14
  have HB4 := Lib.hid B4
  have HT4 := Lib.hid (B3.below hb4 B3.lt)
  have HDW := Lib.hid h
  have c1 : w2.cell? ⟨bD, 0, none⟩ = some (.pointer (some ⟨g, 0, none⟩)) := B12.cell 0
  have c2 : w2.cell? ⟨bN, 0, none⟩ = some (.int .i64 (n : Nat)) := B2.cell 0
  have hmf : ∀ (fn : Fn) (first cap : Array Value) (w : World), (Instr.makeFunc fn first cap).run Tryz.prog w = .ok (.func fn first cap) w := fun _ _ _ _ => rfl
  clear h hl hs hb1 B1 hb2 B2 hb12 B12 hb3 B3 hb4 B4 hb34 hb14
  go_enter Tryz.func45, Tryz.ntmps45
  go_wp2_with fail
  refine HP.out.mono ?_
  rintro e w' ⟨rfl, rfl⟩
  go_wp2_with fail
  refine HGD.out.mono ?_
  rintro e w5 ⟨rfl, r, rd', q1, q2, q3, q4, q5, q6⟩
  have hkk : Kinds (oF gT g) w4 [158, 102] := by
    obtain ⟨_, _, hgb⟩ := (HDW.out.below HB14.out).blk
    rintro k (rfl | rfl)
    · exact ⟨_, by simp, HT4.out.typ⟩
    · exact ⟨_, by simp, hgb.typ⟩
  have hT5 := q6.blk_ hkk HB4.out (by decide)
  have hne : gt ≠ gT := hT5.ne q2 (by decide)
  have hrne : r ≠ gT := q3.ne q2 (by decide)
  have d5 : w5.cell? ⟨gt, 0, none⟩ = some (.pointer (some ⟨gT, 0, none⟩)) := hT5.cell 0
  have c3 : w5.cell? ⟨gT, 3, none⟩ = some (.pointer (some ⟨r, 0, none⟩)) := q2.cell 3
  have c4 : w5.cell? ⟨gT, 4, none⟩ = some (.pointer none) := q2.cell 4
  have f4 : w5.frozen? ⟨gT, 4, none⟩ = false := q2.frozen 4
  obtain ⟨w6, hw6⟩ : ∃ x, w5.drew.setCell ⟨gT, 4, none⟩ (.pointer (some ⟨r, 0, none⟩)) = x := ⟨_, rfl⟩
  have ho6 : Only (· = gT) w5 w6 := by rw [← hw6]; exact ((Only.refl (· = gT) w5).drew).setCell (p := ⟨gT, 4, none⟩) (.inl rfl) _
  have hT6 : TmAt w6 gT ⟨g, first, n, r, some r, seq, p, false⟩ := by rw [← hw6]; exact (show Blk w5.drew gT 158 _ from q2).set_ 4 _
  have d6 : w6.cell? ⟨gt, 0, none⟩ = some (.pointer (some ⟨gT, 0, none⟩)) := (ho6.blk hT5 hne).cell 0
  have HX : Hid (OpdPost gT g first n vD d rd seq a p r w w6) := ⟨hgTw, q1, hT6, ho6.blk q3 hrne, ⟨rd', q4.only_ ho6 (one_kinds q2) (by decide) (by decide), q5⟩,
    ((Only.of_below HB14.out (· = g)).trans (q6.trans ho6 (fun _ _ e => .inl e)) (fun x hx e => by
      rcases e with e | e
      · exact absurd hgTw (by omega)
      · exact e))⟩
  have C5 := Lib.hid c3
  have D5 := Lib.hid d5
  have D6 := Lib.hid d6
  clear q1 q2 q3 q4 q5 q6 hkk hT5 hne hrne ho6 hT6 d6 hgTw c3 d5
  go_wp2_with fail
  refine wp_region_L 7 (fun W => W.cell? ⟨gT, 3, none⟩ = some (.pointer (some ⟨r, 0, none⟩))) (fun W => W.cell? ⟨gt, 0, none⟩ = some (.pointer (some ⟨gT, 0, none⟩))) (by kernel_rfl) C5.out D5.out (fun hTill => ?_)
  refine wpL_take' (i := 0) (oi := _) (v := ?_) rfl (by kernel_rfl) (by kernel_rfl) (by kernel_rfl) (by kernel_rfl) (fun _ _ _ h => h) (.inl ⟨by rfl, ?_⟩) (by assumption) ?_
  rotate_left
  · intro W hSw
    (try dsimp only at hSw)
    go_simp
    (try rfl)
  (try simp only [Act.put, List.getElem_toArray, List.getElem_cons_succ, List.getElem_cons_zero, List.setIfInBounds_toArray, List.set_cons_zero, List.set_cons_succ])
  refine wpL_take' (i := 1) (oi := _) (v := ?_) rfl (by kernel_rfl) (by kernel_rfl) (by kernel_rfl) (by kernel_rfl) (fun _ _ _ h => h) (.inl ⟨by rfl, ?_⟩) (by assumption) ?_
  rotate_left
  · intro W hSw
    (try dsimp only at hSw)
    go_simp
    (try rfl)
  (try simp only [Act.put, List.getElem_toArray, List.getElem_cons_succ, List.getElem_cons_zero, List.setIfInBounds_toArray, List.set_cons_zero, List.set_cons_succ])
  refine wpL_take' (i := 2) (oi := _) (v := ?_) rfl (by kernel_rfl) (by kernel_rfl) (by kernel_rfl) (by kernel_rfl) (fun _ _ _ h => h) (.inl ⟨by rfl, ?_⟩) (by assumption) ?_
  rotate_left
  · intro W hSw
    (try dsimp only at hSw)
    go_simp
    (try rfl)
  (try simp only [Act.put, List.getElem_toArray, List.getElem_cons_succ, List.getElem_cons_zero, List.setIfInBounds_toArray, List.set_cons_zero, List.set_cons_succ])
  refine wpL_take' (i := 3) (oi := _) (v := ?_) rfl (by kernel_rfl) (by kernel_rfl) (by kernel_rfl) (by kernel_rfl) (fun _ _ _ h => h) (.inl ⟨by rfl, ?_⟩) (by assumption) ?_
  rotate_left
  · intro W hSw
    (try dsimp only at hSw)
    go_simp
    (try rfl)
  (try simp only [Act.put, List.getElem_toArray, List.getElem_cons_succ, List.getElem_cons_zero, List.setIfInBounds_toArray, List.set_cons_zero, List.set_cons_succ])
  refine wpL_take (i := 4) (oi := _) (v := ?_) rfl (by kernel_rfl) (by kernel_rfl) (by kernel_rfl) (by kernel_rfl) (fun _ _ _ h => h) (.inl ⟨by rfl, ?_⟩) (by assumption) ?_
  rotate_left
  · intro W hSw
    (try dsimp only at hSw)
    go_simp
    (try rfl)
  (try simp only [Act.put, List.getElem_toArray, List.getElem_cons_succ, List.getElem_cons_zero, List.setIfInBounds_toArray, List.set_cons_zero, List.set_cons_succ])
  refine wpL_take' (i := 5) (oi := _) (v := ?_) rfl (by kernel_rfl) (by kernel_rfl) (by kernel_rfl) (by kernel_rfl) (fun _ _ _ h => h) (.inl ⟨by rfl, ?_⟩) (by assumption) ?_
  rotate_left
  · intro W hSw
    (try dsimp only at hSw)
    go_simp
    (try rfl)
  (try simp only [Act.put, List.getElem_toArray, List.getElem_cons_succ, List.getElem_cons_zero, List.setIfInBounds_toArray, List.set_cons_zero, List.set_cons_succ])
  refine wpL_take' (i := 6) (oi := _) (v := ?_) rfl (by kernel_rfl) (by kernel_rfl) (by kernel_rfl) (by kernel_rfl) (fun _ _ _ h => h) (.inl ⟨by rfl, ?_⟩) (by assumption) ?_
  rotate_left
  · intro W hSw
    (try dsimp only at hSw)
    go_simp
    (try rfl)
  (try simp only [Act.put, List.getElem_toArray, List.getElem_cons_succ, List.getElem_cons_zero, List.setIfInBounds_toArray, List.set_cons_zero, List.set_cons_succ])
  refine wpL_ready (rs := [7]) (by kernel_rfl) (by simp) ?_
  refine AllL.cons (o := _) rfl (fun K hK => ?_) AllL.nil
  go_simp
  refine hK.out _ _ ⟨fun h => Bool.noConfusion ((show _ = true by kernel_rfl).symm.trans h), D6.out⟩ (fun hTill => ?_)
  clear hK K
  (try simp only [Act.put, List.getElem_toArray, List.getElem_cons_succ, List.getElem_cons_zero, List.setIfInBounds_toArray, List.set_cons_zero, List.set_cons_succ])
  refine wpL_done (by kernel_rfl) ?_ _
  clear hTill
  have d6 := D6.out
  go_wp2_with fail
  go_ret2
  exact ⟨gT, r, rfl, HX.out⟩
set_option maxRecDepth 100000 in
set_option maxHeartbeats 2000000 in
theorem topenP_any (g first n : Nat) (vD : Value) (d : Pl.Dk) (rd : Int) (seq a p : Nat) (w : World) (h : DiskAt w g vD d rd) (hl : d.life ≠ 0) (hs : SlotOk d first n seq a p) (hn : n ≤ 4096) (hn16 : 16 ≤ n) (hf : first + n ≤ d.secs.length) (hge : GE w) :
    Calls Tryz.prog 19 #[.pointer (some ⟨g, 0, none⟩), .int .i64 (first : Nat), .int .i64 (n : Nat)] w fun e w' => ∃ gT r, e = .returned (.tuple #[.pointer (some ⟨gT, 0, none⟩), errA 0 ⟨#[]⟩]) ∧ OpdPost gT g first n vD d rd seq a p r w w' := by
  have hb0 : Below w.heap.size w (w.alloc err0) := (Below.refl _ _).alloc (Nat.le_refl _) _
  have hd0 := h.below hb0
  have HC := Lib.hid (topen_any g first n vD d rd seq a p (w.alloc err0) hd0 hl hs hn hn16 hf)
  have BE : Hid (Blk (w.alloc err0) w.heap.size 28 [.int .i64 0, .string ⟨#[]⟩, .bool false]) := Blk.new w 28 _
  have HG0 := Lib.hid (hge.below hb0)
  have HD0 := Lib.hid hd0
  have HB0 := Lib.hid hb0
  clear h hs hge hb0 hd0
  go_enter Tryz.func19, Tryz.ntmps19
  go_wp2_with fail
  refine HC.out.mono ?_
  rintro e w2 ⟨gT, r, rfl, hq⟩
  have HQ := Lib.hid hq
  obtain ⟨_, _, hgb⟩ := HD0.out.blk
  have hfa : 1 ≠ g := HG0.out.off HD0.out
  have HG2 : Hid (GE w2) := hq.2.2.2.2.2.cell HG0.out hfa
  have BE2 := Lib.hid (hq.2.2.2.2.2.blk BE.out (fun e => (BE.out.ne hgb (by decide)) e))
  clear hq hgb hfa
  go_wp2_with fail
  refine (told_any .nilIface 0 ⟨#[]⟩ _ HG2.out (ErrV.nil _) (by omega)).mono ?_
  rintro e w3 ⟨rfl, hb3⟩
  have BE3 := Lib.hid (BE2.out.below hb3 BE2.out.lt)
  obtain ⟨c0, c1, c2, f0, f1, f2⟩ := facts3 BE3.out
  have HB3 := Lib.hid hb3
  clear hb3
  go_wp2_with fail
  have hq1 : OpdPost gT g first n vD d rd seq a p r w w2 := HQ.out.before HB0.out
  have hq2 := hq1.only (Only.of_below HB3.out (fun _ => False)) (fun _ h => h.elim) (fun _ _ h => h)
  have ho : Only (· = w.heap.size) w3 w3 := Only.refl _ _
  have ho3 : ∀ x0 x1 x2, Only (· = w.heap.size) w3 (((w3.setCell ⟨w.heap.size, 0, none⟩ x0).setCell ⟨w.heap.size, 1, none⟩ x1).setCell ⟨w.heap.size, 2, none⟩ x2) := fun x0 x1 x2 => ((ho.setCell (p := ⟨w.heap.size, 0, none⟩) (.inl rfl) x0).setCell (p := ⟨w.heap.size, 1, none⟩) (.inl rfl) x1).setCell (p := ⟨w.heap.size, 2, none⟩) (.inl rfl) x2
  refine bodyPost_ret (v := .tuple #[.pointer (some ⟨gT, 0, none⟩), errA 0 ⟨#[]⟩]) (results_err2 rfl rfl rfl (BE3.out.set3 _ _ _)) rfl ⟨gT, r, rfl, ?_⟩
  exact hq2.only (ho3 _ _ _) (fun k hk => by subst hk; exact ⟨_, by simp, BE3.out.typ⟩) (fun x hx e => by omega)
end Go.Proofs.YtljmklohgpaopaaGreatDoor
