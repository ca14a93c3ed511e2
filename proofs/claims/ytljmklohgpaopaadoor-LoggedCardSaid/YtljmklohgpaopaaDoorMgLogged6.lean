/- The walk of the log's Reset. A log's state in memory; what is done to it by 'do'; the walk of Reset. The walks of strings.Builder's Write and String, of a builder that the call has made itself. Plain: what an append lays into the sectors, piece by piece. -/
import Derived.Test.YtljmklohgpaopaaDoorMgLogged5
import Derived.Lib.Builder
import Derived.Lib.UnsafeStr
import Derived.Laws.Externs
import Derived.Test.YtljmklohgpaopaaDoorMgLogged3
set_option linter.unusedVariables false
set_option linter.unusedSimpArgs false

namespace Go.Proofs.YtljmklohgpaopaaDoor
open Go.RowKit

def resetOps (l : Pl.Lg) : List Pl.Ch := [.wr (l.first + (l.epoch + 1) % 2) (Pl.slotText (l.epoch + 1)), .sy]
def resetLg (l : Pl.Lg) : Pl.Lg := { l with epoch := l.epoch + 1, next := 0, all := [] }
def Reset1Post (gl g : Nat) (v va : Value) (d : Pl.Dk) (rd : Int) (l : Pl.Lg) (w : World) (e : Ending) (w' : World) : Prop :=
  Ends (d.run (resetOps l)).2 3 e ∧ DiskAt w' g v (d.run (resetOps l)).1 rd ∧ LogCells w' gl g (if (d.run (resetOps l)).2 then .slice none 0 0 else va) (if (d.run (resetOps l)).2 then resetLg l else l) ∧ Only (lF gl g v) w w'
theorem slot_len (e : Nat) : (Pl.slotText e).length ≤ 256 := by simp [Pl.slotText, Pl.be_length]
theorem Reset1Post.stop {gl g : Nat} {v va : Value} {d d' : Pl.Dk} {rd : Int} {l : Pl.Lg} {w w' : World} (h : d.run (resetOps l) = (d', false)) (hd : DiskAt w' g v d' rd) (hl : LogCells w' gl g va l) (ho : Only (lF gl g v) w w') : Reset1Post gl g v va d rd l w (died 3) w' := by
  unfold Reset1Post
  rw [h]
  exact ⟨Ends.no 3, hd, hl, ho⟩
theorem Reset1Post.good {gl g : Nat} {v va : Value} {d d' : Pl.Dk} {rd : Int} {l : Pl.Lg} {w w' : World} (h : d.run (resetOps l) = (d', true)) (hd : DiskAt w' g v d' rd) (hl : LogCells w' gl g (.slice none 0 0) (resetLg l)) (ho : Only (lF gl g v) w w') : Reset1Post gl g v va d rd l w (.returned (.tuple #[])) w' := by
  unfold Reset1Post
  rw [h]
  exact ⟨Ends.good 3, hd, hl, ho⟩
theorem dF_lF {gl g : Nat} {v : Value} {k : Nat} (h : dF g v k) : lF gl g v k := .inl h

set_option maxHeartbeats 4000000 in
set_option maxRecDepth 100000 in
theorem reset1_any (gl g bl : Nat) (v va : Value) (d : Pl.Dk) (rd : Int) (l : Pl.Lg) (w : World) (h : DiskAt w g v d rd) (hl : LogCells w gl g va l) (hB : Blk w bl 39 [.pointer (some ⟨gl, 0, none⟩)])
    (hfit : l.first + 2 ≤ d.secs.length) (hep : l.epoch + 1 < 18446744073709551616) :
    Calls Tryd.prog 100 #[.pointer (some ⟨bl, 0, none⟩)] w (Reset1Post gl g v va d rd l w) := by
  obtain ⟨a0, a1, a2, a3, a4, a5, a6, b0, b1, b2, b3, b4, b5, b6⟩ := facts7 hl.blk
  obtain ⟨cB, _⟩ := facts1 hB
  have s0 := Lib.hid (⟨cB, a0, a1, a3⟩ : w.cell? ⟨bl, 0, none⟩ = some (.pointer (some ⟨gl, 0, none⟩)) ∧ w.cell? ⟨gl, 0, none⟩ = some (.pointer (some ⟨g, 0, none⟩)) ∧ w.cell? ⟨gl, 1, none⟩ = some (.int .i64 (l.first : Nat)) ∧ w.cell? ⟨gl, 3, none⟩ = some (.int .u64 (l.epoch : Nat)))
  have hsm := hl.small
  have hm := h.most
  have H := Lib.hid h
  have HL := Lib.hid hl
  have HB := Lib.hid hB
  obtain ⟨ep, hepe⟩ : ∃ ep : Nat, (l.epoch : Int) + 1 = ep := ⟨l.epoch + 1, by omega⟩
  have HEP : Hid (ep = l.epoch + 1) := by rw [Hid]; omega
  have hepl : ep < 18446744073709551616 := by rw [HEP.out]; exact hep
  have hwe : IntKind.u64.wrap (ep : Int) = (ep : Int) := IntWalk.u64_in _ (by omega)
  obtain ⟨q, hq⟩ : ∃ q : Nat, (ep : Int).tmod 2 = q := ⟨ep % 2, by rw [Int.tmod_eq_emod_of_nonneg (by omega)]; omega⟩
  have HQ : Hid (q = ep % 2) := by rw [Hid]; rw [Int.tmod_eq_emod_of_nonneg (by omega)] at hq; omega
  have hq2 : q < 2 := by rw [HQ.out]; omega
  obtain ⟨p, hp⟩ : ∃ p : Nat, (l.first : Int) + q = p := ⟨l.first + q, by omega⟩
  have HP : Hid (p = l.first + q) := by rw [Hid]; omega
  have hpl : p < d.secs.length := by rw [HP.out]; omega
  have HPL := Lib.hid hpl
  have hwp : IntKind.i64.wrap (p : Int) = (p : Int) := IntWalk.i64_in _ (by omega)
  have hwq : IntKind.i64.wrap (q : Int) = (q : Int) := IntWalk.i64_in _ (by omega)
  obtain ⟨st, hst⟩ : ∃ t, tstr (Pl.slotText ep) = t := ⟨_, rfl⟩
  have HST := Lib.hid hst
  have HSM := Lib.hid hsm
  clear h hl hB cB a0 a1 a2 a3 a4 a5 a6 b0 b1 b2 b3 b4 b5 b6 hep hfit hpl hst hsm
  go_enter Tryd.func100, Tryd.ntmps100
  go_wp2_with fail
  refine wp_region_held_drew (S := fun W : World => W.cell? ⟨bl, 0, none⟩ = some (.pointer (some ⟨gl, 0, none⟩)) ∧ W.cell? ⟨gl, 0, none⟩ = some (.pointer (some ⟨g, 0, none⟩)) ∧ W.cell? ⟨gl, 1, none⟩ = some (.int .i64 (l.first : Nat)) ∧ W.cell? ⟨gl, 3, none⟩ = some (.int .u64 (l.epoch : Nat))) (by kernel_rfl) s0.out (fun hHeld => ?_)
  refine wpAnyH_take (i := 0) (oi := _) (v := ?_) rfl (by kernel_rfl) (by kernel_rfl) (by kernel_rfl) (fun _ _ _ h => h) (Or.inl ⟨by rfl, ?_⟩) (by assumption) ?_
  rotate_left
  · intro W hSw
    (try dsimp only at hSw)
    go_simp
    rfl
  (try simp only [Act.put, List.getElem_toArray, List.getElem_cons_succ, List.getElem_cons_zero, List.setIfInBounds_toArray, List.set_cons_zero, List.set_cons_succ])
  refine wpAnyH_take (i := 1) (oi := _) (v := ?_) rfl (by kernel_rfl) (by kernel_rfl) (by kernel_rfl) (fun _ _ _ h => h) (Or.inl ⟨by rfl, ?_⟩) (by assumption) ?_
  rotate_left
  · intro W hSw
    (try dsimp only at hSw)
    go_simp
    rfl
  (try simp only [Act.put, List.getElem_toArray, List.getElem_cons_succ, List.getElem_cons_zero, List.setIfInBounds_toArray, List.set_cons_zero, List.set_cons_succ])
  refine wpAnyH_take (i := 2) (oi := _) (v := ?_) rfl (by kernel_rfl) (by kernel_rfl) (by kernel_rfl) (fun _ _ _ h => h) (Or.inl ⟨by rfl, ?_⟩) (by assumption) ?_
  rotate_left
  · intro W hSw
    (try dsimp only at hSw)
    go_simp
    rfl
  (try simp only [Act.put, List.getElem_toArray, List.getElem_cons_succ, List.getElem_cons_zero, List.setIfInBounds_toArray, List.set_cons_zero, List.set_cons_succ])
  refine wpAnyH_take (i := 3) (oi := _) (v := ?_) rfl (by kernel_rfl) (by kernel_rfl) (by kernel_rfl) (fun _ _ _ h => h) (Or.inl ⟨by rfl, ?_⟩) (by assumption) ?_
  rotate_left
  · intro W hSw
    (try dsimp only at hSw)
    go_simp
    rfl
  (try simp only [Act.put, List.getElem_toArray, List.getElem_cons_succ, List.getElem_cons_zero, List.setIfInBounds_toArray, List.set_cons_zero, List.set_cons_succ])
  refine wpAnyH_take (i := 4) (oi := _) (v := ?_) rfl (by kernel_rfl) (by kernel_rfl) (by kernel_rfl) (fun _ _ _ h => h) (Or.inl ⟨by rfl, ?_⟩) (by assumption) ?_
  rotate_left
  · intro W hSw
    (try dsimp only at hSw)
    go_simp
    rfl
  (try simp only [Act.put, List.getElem_toArray, List.getElem_cons_succ, List.getElem_cons_zero, List.setIfInBounds_toArray, List.set_cons_zero, List.set_cons_succ])
  refine wpAnyH_take (i := 5) (oi := _) (v := ?_) rfl (by kernel_rfl) (by kernel_rfl) (by kernel_rfl) (fun _ _ _ h => h) (Or.inl ⟨by rfl, ?_⟩) (by assumption) ?_
  rotate_left
  · intro W hSw
    (try dsimp only at hSw)
    go_simp
    rfl
  (try simp only [Act.put, List.getElem_toArray, List.getElem_cons_succ, List.getElem_cons_zero, List.setIfInBounds_toArray, List.set_cons_zero, List.set_cons_succ])
  refine wpAnyH_take (i := 6) (oi := _) (v := ?_) rfl (by kernel_rfl) (by kernel_rfl) (by kernel_rfl) (fun _ _ _ h => h) (Or.inl ⟨by rfl, ?_⟩) (by assumption) ?_
  rotate_left
  · intro W hSw
    (try dsimp only at hSw)
    go_simp
    rfl
  (try simp only [Act.put, List.getElem_toArray, List.getElem_cons_succ, List.getElem_cons_zero, List.setIfInBounds_toArray, List.set_cons_zero, List.set_cons_succ])
  refine wpAnyH_take (i := 7) (oi := _) (v := ?_) rfl (by kernel_rfl) (by kernel_rfl) (by kernel_rfl) (fun _ _ _ h => h) (Or.inl ⟨by rfl, ?_⟩) (by assumption) ?_
  rotate_left
  · intro W hSw
    (try dsimp only at hSw)
    go_simp
    rfl
  (try simp only [Act.put, List.getElem_toArray, List.getElem_cons_succ, List.getElem_cons_zero, List.setIfInBounds_toArray, List.set_cons_zero, List.set_cons_succ])
  refine wpAnyH_take (i := 8) (oi := _) (v := ?_) rfl (by kernel_rfl) (by kernel_rfl) (by kernel_rfl) (fun _ _ _ h => h) (Or.inl ⟨by rfl, ?_⟩) (by assumption) ?_
  rotate_left
  · intro W hSw
    (try dsimp only at hSw)
    go_simp
    rfl
  (try simp only [Act.put, List.getElem_toArray, List.getElem_cons_succ, List.getElem_cons_zero, List.setIfInBounds_toArray, List.set_cons_zero, List.set_cons_succ])
  refine wpAnyH_take (i := 9) (oi := _) (v := ?_) rfl (by kernel_rfl) (by kernel_rfl) (by kernel_rfl) (fun _ _ _ h => h) (Or.inl ⟨by rfl, ?_⟩) (by assumption) ?_
  rotate_left
  · intro W hSw
    (try dsimp only at hSw)
    go_simp
    rfl
  (try simp only [Act.put, List.getElem_toArray, List.getElem_cons_succ, List.getElem_cons_zero, List.setIfInBounds_toArray, List.set_cons_zero, List.set_cons_succ])
  refine wpAnyH_take (i := 10) (oi := _) (v := ?_) rfl (by kernel_rfl) (by kernel_rfl) (by kernel_rfl) (fun _ _ _ h => h) (Or.inl ⟨by rfl, ?_⟩) (by assumption) ?_
  rotate_left
  · intro W hSw
    (try dsimp only at hSw)
    go_simp
    rfl
  (try simp only [Act.put, List.getElem_toArray, List.getElem_cons_succ, List.getElem_cons_zero, List.setIfInBounds_toArray, List.set_cons_zero, List.set_cons_succ])
  refine wpAnyH_take (i := 11) (oi := _) (v := ?_) rfl (by kernel_rfl) (by kernel_rfl) (by kernel_rfl) (fun _ _ _ h => h) (Or.inl ⟨by rfl, ?_⟩) (by assumption) ?_
  rotate_left
  · intro W hSw
    (try dsimp only at hSw)
    go_simp
    rfl
  (try simp only [Act.put, List.getElem_toArray, List.getElem_cons_succ, List.getElem_cons_zero, List.setIfInBounds_toArray, List.set_cons_zero, List.set_cons_succ])
  refine wpAnyH_take (i := 12) (oi := _) (v := ?_) rfl (by kernel_rfl) (by kernel_rfl) (by kernel_rfl) (fun _ _ _ h => h) (Or.inl ⟨by rfl, ?_⟩) (by assumption) ?_
  rotate_left
  · intro W hSw
    (try dsimp only at hSw)
    go_simp
    rfl
  (try simp only [Act.put, List.getElem_toArray, List.getElem_cons_succ, List.getElem_cons_zero, List.setIfInBounds_toArray, List.set_cons_zero, List.set_cons_succ])
  refine wpAnyH_take (i := 13) (oi := _) (v := ?_) rfl (by kernel_rfl) (by kernel_rfl) (by kernel_rfl) (fun _ _ _ h => h) (Or.inl ⟨by rfl, ?_⟩) (by assumption) ?_
  rotate_left
  · intro W hSw
    (try dsimp only at hSw)
    go_simp
    rfl
  (try simp only [Act.put, List.getElem_toArray, List.getElem_cons_succ, List.getElem_cons_zero, List.setIfInBounds_toArray, List.set_cons_zero, List.set_cons_succ])
  refine wpAnyH_take (i := 14) (oi := _) (v := ?_) rfl (by kernel_rfl) (by kernel_rfl) (by kernel_rfl) (fun _ _ _ h => h) (Or.inl ⟨by rfl, ?_⟩) (by assumption) ?_
  rotate_left
  · intro W hSw
    (try dsimp only at hSw)
    go_simp
    rfl
  (try simp only [Act.put, List.getElem_toArray, List.getElem_cons_succ, List.getElem_cons_zero, List.setIfInBounds_toArray, List.set_cons_zero, List.set_cons_succ])
  refine wpAnyH_take (i := 15) (oi := _) (v := ?_) rfl (by kernel_rfl) (by kernel_rfl) (by kernel_rfl) (fun _ _ _ h => h) (Or.inl ⟨by rfl, ?_⟩) (by assumption) ?_
  rotate_left
  · intro W hSw
    (try dsimp only at hSw)
    go_simp
    rfl
  (try simp only [Act.put, List.getElem_toArray, List.getElem_cons_succ, List.getElem_cons_zero, List.setIfInBounds_toArray, List.set_cons_zero, List.set_cons_succ])
  refine wpAnyH_take (i := 16) (oi := _) (v := ?_) rfl (by kernel_rfl) (by kernel_rfl) (by kernel_rfl) (fun _ _ _ h => h) (Or.inl ⟨by rfl, ?_⟩) (by assumption) ?_
  rotate_left
  · intro W hSw
    (try dsimp only at hSw)
    go_simp
    rfl
  (try simp only [Act.put, List.getElem_toArray, List.getElem_cons_succ, List.getElem_cons_zero, List.setIfInBounds_toArray, List.set_cons_zero, List.set_cons_succ])
  refine wpAnyH_take (i := 17) (oi := _) (v := ?_) rfl (by kernel_rfl) (by kernel_rfl) (by kernel_rfl) (fun _ _ _ h => h) (Or.inl ⟨by rfl, ?_⟩) (by assumption) ?_
  rotate_left
  · intro W hSw
    (try dsimp only at hSw)
    go_simp
    rfl
  (try simp only [Act.put, List.getElem_toArray, List.getElem_cons_succ, List.getElem_cons_zero, List.setIfInBounds_toArray, List.set_cons_zero, List.set_cons_succ])
  refine wpAnyH_take (i := 18) (oi := _) (v := ?_) rfl (by kernel_rfl) (by kernel_rfl) (by kernel_rfl) (fun _ _ _ h => h) (Or.inl ⟨by rfl, ?_⟩) (by assumption) ?_
  rotate_left
  · intro W hSw
    (try dsimp only at hSw)
    go_simp
    rfl
  (try simp only [Act.put, List.getElem_toArray, List.getElem_cons_succ, List.getElem_cons_zero, List.setIfInBounds_toArray, List.set_cons_zero, List.set_cons_succ])
  refine wpAnyH_take (i := 19) (oi := _) (v := ?_) rfl (by kernel_rfl) (by kernel_rfl) (by kernel_rfl) (fun _ _ _ h => h) (Or.inl ⟨by rfl, ?_⟩) (by assumption) ?_
  rotate_left
  · intro W hSw
    (try dsimp only at hSw)
    go_simp
    rfl
  (try simp only [Act.put, List.getElem_toArray, List.getElem_cons_succ, List.getElem_cons_zero, List.setIfInBounds_toArray, List.set_cons_zero, List.set_cons_succ])
  refine wpAnyH_take (i := 20) (oi := _) (v := ?_) rfl (by kernel_rfl) (by kernel_rfl) (by kernel_rfl) (fun _ _ _ h => h) (Or.inl ⟨by rfl, ?_⟩) (by assumption) ?_
  rotate_left
  · intro W hSw
    (try dsimp only at hSw)
    go_simp
    rfl
  (try simp only [Act.put, List.getElem_toArray, List.getElem_cons_succ, List.getElem_cons_zero, List.setIfInBounds_toArray, List.set_cons_zero, List.set_cons_succ])
  refine wpAnyH_ready (rs := [21]) (by kernel_rfl) (by simp) ?_
  refine AllReadyH.cons (o := _) rfl (fun K hK => ?_) AllReadyH.nil
  go_simp
  refine (slot_any ep _ hepl).mono ?_
  rintro e w3 ⟨rfl, hb3⟩
  rw [HST.out]
  have hb3' := undrew hb3
  have HB3 := Lib.hid (HB.out.below hb3' HB.out.lt)
  have HL3 := Lib.hid (HL.out.below hb3')
  have H3 := Lib.hid (H.out.below hb3')
  have O3 := Lib.hid (Only.of_below (a := w) hb3' (lF gl g v))
  have KF3 : Hid (Kinds (lF gl g v) w3 _) := lF_kinds H3.out HL3.out
  clear hb3 hb3'
  go_wp2_with fail
  refine hK.out _ _ ⟨HB3.out.cell 0, HL3.out.blk.cell 0, HL3.out.blk.cell 1, HL3.out.blk.cell 3⟩ (fun hHeld3 => ?_)
  clear hK K
  (try simp only [Act.put, List.getElem_toArray, List.getElem_cons_succ, List.getElem_cons_zero, List.setIfInBounds_toArray, List.set_cons_zero, List.set_cons_succ])
  refine wpAnyH_ready (rs := [22]) (by kernel_rfl) (by simp) ?_
  refine AllReadyH.cons (o := _) rfl (fun K hK => ?_) AllReadyH.nil
  go_simp
  rw [← HST.out]
  refine (wwrite_any g v d rd p (Pl.slotText ep) _ H3.out HPL.out (slot_len _)).mono ?_
  rintro e w4 ⟨⟨hal, rfl⟩ | ⟨hal, rfl⟩, h4, ho4⟩
  · have H4 := Lib.hid h4
    have HL4 := Lib.hid (HL3.out.only ho4 H3.out.kinds (by decide))
    have HB4 := Lib.hid (ho4.blk_ H3.out.kinds HB3.out (by decide))
    have O4 := Lib.hid (O3.out.trans' (ho4.mono (fun _ _ => dF_lF)))
    have R4 := Lib.hid (Pl.run_go (c := .wr p (Pl.slotText ep)) (Pl.Dk.run_nil d) hal)
    clear h4 ho4 hal
    go_wp2_with fail
    refine hK.out _ _ ⟨HB4.out.cell 0, HL4.out.blk.cell 0, HL4.out.blk.cell 1, HL4.out.blk.cell 3⟩ (fun _ => ?_)
    refine wpAnyH_done (by kernel_rfl) ?_ _
    clear hK K hHeld hHeld3
    obtain ⟨a0, a1, a2, a3, a4, a5, a6, b0, b1, b2, b3, b4, b5, b6⟩ := facts7 HL4.out.blk
    obtain ⟨cB, _⟩ := facts1 HB4.out
    go_wp2_with fail
    refine (wsync_any g v _ rd _ H4.out).mono ?_
    rintro e w5 ⟨⟨hal, rfl⟩ | ⟨hal, rfl⟩, h5, ho5⟩
    · have H5 := Lib.hid h5
      have hl5 := HL4.out.only ho5 H4.out.kinds (by decide)
      have HB5 := Lib.hid (ho5.blk_ H4.out.kinds HB4.out (by decide))
      have O5 := Lib.hid (O4.out.trans' (ho5.mono (fun _ _ => dF_lF)))
      have R5 := Lib.hid (Pl.run_go (c := .sy) R4.out hal)
      have HL5 := Lib.hid hl5
      clear h5 ho5 hal a0 a1 a2 a3 a4 a5 a6 b0 b1 b2 b3 b4 b5 b6 cB hl5
      obtain ⟨a0, a1, a2, a3, a4, a5, a6, b0, b1, b2, b3, b4, b5, b6⟩ := facts7 HL5.out.blk
      obtain ⟨cB, _⟩ := facts1 HB5.out
      have hne : bl ≠ gl := HB5.out.ne HL5.out.blk (by decide)
      go_wp2_with fail
      go_end0
      have ho6 : Only (· = gl) w5 (((w5.setCell ⟨gl, 3, none⟩ (.int .u64 ep)).setCell ⟨gl, 4, none⟩ (.int .i64 0)).setCell ⟨gl, 5, none⟩ (.slice none 0 0)) :=
        (((Only.refl (· = gl) w5).setCell (p := ⟨gl, 3, none⟩) (.inl rfl) _).setCell (p := ⟨gl, 4, none⟩) (.inl rfl) _).setCell (p := ⟨gl, 5, none⟩) (.inl rfl) _
      have hk6 : Kinds (· = gl) w5 [125] := by
        rintro k rfl
        exact ⟨_, by simp, HL5.out.blk.typ⟩
      refine Reset1Post.good ?_ (H5.out.only ho6 (fun k hk e => ?_)) ⟨?_, ?_⟩ (O5.out.trans ho6 (fun _ _ h => .inr h))
      · have := R5.out
        rw [HP.out, HQ.out, HEP.out] at this
        rw [HP.out, HQ.out, HEP.out]
        exact this
      · obtain ⟨t, h1, h2⟩ := H5.out.kinds k hk
        have := h2.uniq (e ▸ HL5.out.blk.typ)
        subst this
        revert h1
        decide
      · have := ((HL5.out.blk.set_ 3 (.int .u64 ep)).set_ 4 (.int .i64 0)).set_ 5 (.slice none 0 0)
        rw [HEP.out] at this ⊢
        exact this
      · have := HSM.out
        exact ⟨this.1, Nat.zero_le _, by show l.epoch + 1 < _; rw [← HEP.out]; exact hepl⟩
    · have H5 := Lib.hid h5
      have HL5 := Lib.hid (HL4.out.only ho5 H4.out.kinds (by decide))
      have O5 := Lib.hid (O4.out.trans' (ho5.mono (fun _ _ => dF_lF)))
      have HAL := Lib.hid hal
      clear h5 ho5 hal
      unfold died
      go_wp2_with fail
      refine ⟨rfl, Reset1Post.stop ?_ H5.out HL5.out O5.out⟩
      have := Pl.run_stop [] R4.out HAL.out (c := .sy)
      rw [HP.out, HQ.out, HEP.out] at this ⊢
      exact this
  · have H4 := Lib.hid h4
    have HL4 := Lib.hid (HL3.out.only ho4 H3.out.kinds (by decide))
    have O4 := Lib.hid (O3.out.trans' (ho4.mono (fun _ _ => dF_lF)))
    have HAL := Lib.hid hal
    clear h4 ho4 hal
    unfold died
    go_wp2_with fail
    refine ⟨rfl, Reset1Post.stop ?_ H4.out HL4.out O4.out⟩
    have := Pl.run_stop [.sy] (Pl.Dk.run_nil d) HAL.out (c := .wr p (Pl.slotText ep))
    rw [HP.out, HQ.out, HEP.out] at this ⊢
    exact this
end Go.Proofs.YtljmklohgpaopaaDoor

namespace Go.Proofs.YtljmklohgpaopaaDoor
open Go.RowKit

structure LogSt (w : World) (gl g : Nat) (v va : Value) (vs : List Value) (d : Pl.Dk) (rd : Int) (l : Pl.Lg) : Prop where
  disk : DiskAt w g v d rd
  cells : LogCells w gl g va l
  rows : RowsAt w va vs l.all
/-- What a log's calls may write. -/
def lFa (gl g : Nat) (v va : Value) (k : Nat) : Prop := lF gl g v k ∨ va.ownBlock = some k
def lTypes : List TypeId := [90, 92, 125, 23]
theorem LogSt.kinds {w : World} {gl g : Nat} {v va : Value} {vs : List Value} {d : Pl.Dk} {rd : Int} {l : Pl.Lg} (h : LogSt w gl g v va vs d rd l) : Kinds (lFa gl g v va) w lTypes := by
  rintro k (hk | hk)
  · obtain ⟨t, h1, h2⟩ := lF_kinds h.disk h.cells k hk
    refine ⟨t, ?_, h2⟩
    simp only [List.mem_cons, List.not_mem_nil, or_false, lTypes] at h1 ⊢
    rcases h1 with rfl | rfl | rfl <;> simp
  · exact ⟨_, by simp [lTypes], own_typ h.rows.own hk⟩
theorem RowsAt.below {w w' : World} {va : Value} {vs : List Value} {ls : List (List UInt8)} (h : RowsAt w va vs ls) (hb : Below w.heap.size w w') : RowsAt w' va vs ls :=
  h.only (F := fun _ => False) (ts := []) (Only.of_below hb _) (fun _ h => h.elim) (by simp) (by simp)
theorem LogSt.below {w w' : World} {gl g : Nat} {v va : Value} {vs : List Value} {d : Pl.Dk} {rd : Int} {l : Pl.Lg} (h : LogSt w gl g v va vs d rd l) (hb : Below w.heap.size w w') : LogSt w' gl g v va vs d rd l :=
  ⟨h.disk.below hb, h.cells.below hb, h.rows.below hb⟩
theorem LogSt.lt {w : World} {gl g : Nat} {v va : Value} {vs : List Value} {d : Pl.Dk} {rd : Int} {l : Pl.Lg} (h : LogSt w gl g v va vs d rd l) : ∀ k, lFa gl g v va k → k < w.heap.size := by
  rintro k ((hk | rfl) | hk)
  · exact h.disk.lt k hk
  · exact h.cells.blk.lt
  · exact (h.rows.own.lt k hk).2
theorem DiskAt.onlyT {F : Nat → Prop} {w w' : World} {g : Nat} {v : Value} {d : Pl.Dk} {rd : Int} {ts : List TypeId} (h : DiskAt w g v d rd) (ho : Only F w w') (hF : Kinds F w ts) (h1 : 90 ∉ ts) (h2 : 92 ∉ ts) : DiskAt w' g v d rd := by
  obtain ⟨wr, sy, hb⟩ := h.blk
  exact ⟨h.most, h.sized, h.life, h.far, ho.own_ hF h.own h2, wr, sy, ho.blk_ hF hb h1⟩
theorem LogSt.onlyT {F : Nat → Prop} {w w' : World} {gl g : Nat} {v va : Value} {vs : List Value} {d : Pl.Dk} {rd : Int} {l : Pl.Lg} {ts : List TypeId} (h : LogSt w gl g v va vs d rd l) (ho : Only F w w') (hF : Kinds F w ts)
    (h1 : 90 ∉ ts) (h2 : 92 ∉ ts) (h3 : 125 ∉ ts) (h4 : 23 ∉ ts) (h5 : 5 ∉ ts) : LogSt w' gl g v va vs d rd l :=
  ⟨h.disk.onlyT ho hF h1 h2, h.cells.only ho hF h3, h.rows.only ho hF h4 h5⟩
/-- The row is the old one, or new. -/
def Sep (w : World) (va va' : Value) : Prop := ∀ b, va'.ownBlock = some b → va.ownBlock = some b ∨ w.heap.size ≤ b
theorem Sep.refl (w : World) (va : Value) : Sep w va va := fun _ h => .inl h

/-- A row has one list of values. -/
theorem own_uniq {w : World} {b b' n n' : Nat} {e e' : TypeId} {v : Value} {xs xs' : List Value} (h : w.ownsRow b e 1 v n xs) (h' : w.ownsRow b' e' 1 v n' xs') : xs = xs' := by
  rcases h.2 with ⟨h0, hn⟩ | ⟨g, cap, cur, hv, _, hg, _, _, _, ht⟩
  · rcases h'.2 with ⟨_, hn'⟩ | ⟨g', cap', cur', hv', _⟩
    · have h1 := h.1
      have h2 := h'.1
      rw [hn] at h1
      rw [hn'] at h2
      rw [List.eq_nil_of_length_eq_zero (l := xs) (by rw [h1]), List.eq_nil_of_length_eq_zero (l := xs') (by rw [h2])]
    · rw [h0] at hv'
      cases hv'
  · rcases h'.2 with ⟨h0, _⟩ | ⟨g', cap', cur', hv', _, hg', _, _, _, ht'⟩
    · rw [h0] at hv
      cases hv
    · rw [hv] at hv'
      injection hv' with e1 e2 e3
      injection e1 with e1
      injection e1 with e1
      subst e1 e2
      rw [hg] at hg'
      injection hg' with hg'
      injection hg' with hc _ _
      rw [← ht, ← ht', hc]
/-- The values are old ones, or their blocks are new. -/
def RSep (w : World) (va : Value) (vs' : List Value) : Prop := ∀ u ∈ vs', ∀ x, u.ownBlock = some x → x < w.heap.size → ∀ n vs, w.ownsRow 0 23 1 va n vs → u ∈ vs
theorem RSep.refl {w : World} {va : Value} {vs : List Value} {n : Nat} (h : w.ownsRow 0 23 1 va n vs) : RSep w va vs := fun u hu x _ _ n' vs' h' => by
  rw [own_uniq h' h]
  exact hu
theorem RSep.nil (w : World) (va : Value) : RSep w va [] := fun u hu => by simp at hu
theorem RSep.back {w w' : World} {va : Value} {vs' : List Value} (h : RSep w' va vs') (hb : Below w.heap.size w w') : RSep w va vs' := fun u hu x hx hl n vs ho => h u hu x hx (Nat.lt_of_lt_of_le hl hb.size) n vs (own_below ho hb)
def DoPost (P : Nat → Pl.Dk → Pl.Lg → Prop) (gl g : Nat) (v va : Value) (rd : Int) (w : World) (e : Ending) (w' : World) : Prop :=
  ∃ k va' vs' d' l', P k d' l' ∧ e = .returned (errK k) ∧ LogSt w' gl g v va' vs' d' rd { l' with bad := (k == 3) } ∧ Sep w va va' ∧ RSep w va vs' ∧ Only (lFa gl g v va) w w'
def BodyPost (P : Nat → Pl.Dk → Pl.Lg → Prop) (gl g : Nat) (v va : Value) (rd : Int) (w : World) (e : Ending) (w' : World) : Prop :=
  ∃ k va' vs' d' l', EndK k e ∧ l'.bad = false ∧ P k d' l' ∧ LogSt w' gl g v va' vs' d' rd l' ∧ Sep w va va' ∧ RSep w va vs' ∧ Only (lFa gl g v va) w w'

theorem do_log (K : FuncId) (caps : Array Value) (gl g : Nat) (v va : Value) (vs : List Value) (d : Pl.Dk) (rd : Int) (l : Pl.Lg) (P : Nat → Pl.Dk → Pl.Lg → Prop) (w w1 : World) (h : LogSt w gl g v va vs d rd l) (hb1 : Below w.heap.size w w1) (hbad : l.bad = false)
    (hK : ∀ W, (callFunc K caps).run Tryd.prog W = .ok (.enter K caps) W)
    (hc : ∀ W, Below w1.heap.size w1 W → Calls Tryd.prog K caps W (BodyPost P gl g v va rd W)) :
    Calls Tryd.prog 95 #[.pointer (some ⟨gl, 0, none⟩), .func (.func K) #[] caps] w1 (DoPost P gl g v va rd w) := by
  have h1 := h.below hb1
  have hbe : Below w1.heap.size w1 (w1.alloc (.cells #[.nilIface] 70)) := (Below.refl _ _).alloc (Nat.le_refl _) _
  have h2 := h1.below hbe
  have BE := Blk.new w1 70 [.nilIface]
  refine (do_any gl g va l K caps w1 h1.cells hbad (fun k w' => Blk w' w1.heap.size 70 [.nilIface] ∧ ∃ va' vs' d' l', l'.bad = false ∧ P k d' l' ∧ LogSt w' gl g v va' vs' d' rd l' ∧ Sep w va va' ∧ RSep w va vs' ∧ Only (lFa gl g v va) w w') hK ?_ ?_).mono ?_
  · rintro k w' ⟨_, va', vs', d', l', hlb, _, hst, _, _, _⟩
    have := hst.cells.blk
    unfold lgCells at this
    rw [hlb] at this
    exact ⟨_, _, _, _, _, _, this⟩
  · refine (hc _ hbe).mono ?_
    rintro e w' ⟨k, va', vs', d', l', hk, hlb, hp, hst, hsep, hrs, ho⟩
    refine ⟨ho.blk_ h2.kinds BE (by decide), k, hk, ho.blk_ h2.kinds BE (by decide), va', vs', d', l', hlb, hp, hst, fun b hb => ?_, (hrs.back hbe).back hb1, ((Only.of_below hb1 _).below hbe).trans' ho⟩
    rcases hsep b hb with h' | h'
    · exact .inl h'
    · exact .inr (Nat.le_trans hb1.size (Nat.le_trans hbe.size h'))
  · rintro e w'' ⟨k, w', ⟨hBE, va', vs', d', l', hlb, hp, hst, hsep, hrs, ho⟩, rfl, hon, hblk⟩
    have hs1 := hb1.size
    have hne : ∀ k, lFa gl g v va k → k < w1.heap.size := h1.lt
    refine ⟨k, va', vs', d', l', hp, rfl, ⟨?_, ⟨hblk _ _ _ _ _ _ _ hst.cells.blk, hst.cells.small⟩, ?_⟩, hsep, hrs, ho.trans hon (fun x hx e => ?_)⟩
    · refine hst.disk.only hon (fun x hx e => ?_)
      rcases e with e | e
      · have := hne x (.inl (.inl hx)); omega
      · obtain ⟨t, h5, h6⟩ := hst.disk.kinds x hx
        have := h6.uniq (e ▸ hst.cells.blk.typ)
        subst this
        revert h5
        decide
    · have hq : ∀ {base n size : Nat} {e : TypeId} {u : Value} {xs : List Value}, w'.ownsRow base e size u n xs → e ≠ 125 → e ≠ 70 → w''.ownsRow base e size u n xs := by
        intro base n size e u xs hu h7 h8
        refine hon.own hu (fun x hx e => ?_)
        rcases e with rfl | rfl
        · exact h8 ((own_typ hu hx).uniq hBE.typ)
        · exact h7 ((own_typ hu hx).uniq hst.cells.blk.typ)
      exact ⟨hq hst.rows.own (by decide) (by decide), fun i u x hu hx => hq (hst.rows.each i u x hu hx) (by decide) (by decide)⟩
    · rcases e with rfl | rfl
      · omega
      · exact .inl (.inr rfl)

/-- What a log's call leaves: the plain one's answer. -/
def LogOut (r : Pl.Lg × Pl.Dk × Nat) (gl g : Nat) (v va : Value) (rd : Int) (w : World) (e : Ending) (w' : World) : Prop :=
  e = .returned (errK r.2.2) ∧ ∃ va' vs', LogSt w' gl g v va' vs' r.2.1 rd r.1 ∧ Sep w va va' ∧ RSep w va vs' ∧ Only (lFa gl g v va) w w'
theorem DoPost.out {P : Nat → Pl.Dk → Pl.Lg → Prop} {gl g : Nat} {v va : Value} {rd : Int} {w w' : World} {e : Ending} {r : Pl.Lg × Pl.Dk × Nat} (h : DoPost P gl g v va rd w e w') (hr : ∀ k d' l', P k d' l' → r = ({ l' with bad := (k == 3) }, d', k)) : LogOut r gl g v va rd w e w' := by
  obtain ⟨k, va', vs', d', l', hp, he, hst, hs, hrs, ho⟩ := h
  have := hr k d' l' hp
  subst this
  exact ⟨he, va', vs', hst, hs, hrs, ho⟩
theorem LogOut.same {r : Pl.Lg × Pl.Dk × Nat} {gl g : Nat} {v va : Value} {vs : List Value} {rd : Int} {w w' : World} {d : Pl.Dk} {l : Pl.Lg} {k : Nat} (h : LogSt w gl g v va vs d rd l) (hb : Below w.heap.size w w') (hr : r = (l, d, k)) : LogOut r gl g v va rd w (.returned (errK k)) w' := by
  subst hr
  exact ⟨rfl, va, vs, h.below hb, Sep.refl w va, RSep.refl h.rows.own, Only.of_below hb _⟩

theorem reset_bad {l : Pl.Lg} (d : Pl.Dk) (h : l.bad = true) : l.reset d = (l, d, 3) := by unfold Pl.Lg.reset; rw [h, if_pos rfl]
theorem reset_eq {l : Pl.Lg} (d : Pl.Dk) (h : l.bad = false) : l.reset d = (if (d.run (resetOps l)).2 then (resetLg l, (d.run (resetOps l)).1, 0) else ({ l with bad := true }, (d.run (resetOps l)).1, 3)) := by
  unfold Pl.Lg.reset
  rw [h, if_neg (by decide)]
  show (match d.run (resetOps l) with | (d', true) => _ | (d', false) => _) = _
  rcases d.run (resetOps l) with ⟨d', ok⟩
  cases ok
  · rfl
  · cases l
    simp at h
    subst h
    rfl

theorem nil_rows (w : World) : RowsAt w (.slice none 0 0) [] [] := ⟨World.ownsRow_nil _ _ _ _, fun k v l h => by simp at h⟩

set_option maxHeartbeats 1000000 in
theorem wlReset_any (gl g : Nat) (v va : Value) (vs : List Value) (d : Pl.Dk) (rd : Int) (l : Pl.Lg) (w : World) (h : LogSt w gl g v va vs d rd l) (hfit : l.first + 2 ≤ d.secs.length) (hep : l.epoch + 1 < 18446744073709551616) :
    Calls Tryd.prog 72 #[.pointer (some ⟨gl, 0, none⟩)] w (LogOut (l.reset d) gl g v va rd w) := by
  have hb1 : Below w.heap.size w (w.alloc (.cells #[.pointer (some ⟨gl, 0, none⟩)] 39)) := (Below.refl _ _).alloc (Nat.le_refl _) _
  have hmf : ∀ (fn : Fn) (first cap : Array Value) (w : World), (Instr.makeFunc fn first cap).run Tryd.prog w = .ok (.func fn first cap) w := fun _ _ _ _ => rfl
  have HB1 := Lib.hid hb1
  have HS := Lib.hid h
  cases hbad : l.bad
  · obtain ⟨w1, hw1⟩ : ∃ w1, w.alloc (.cells #[.pointer (some ⟨gl, 0, none⟩)] 39) = w1 := ⟨_, rfl⟩
    rw [hw1] at hb1
    have B0 : Blk w1 w.heap.size 39 [.pointer (some ⟨gl, 0, none⟩)] := by rw [← hw1]; exact Blk.new _ _ _
    have HD := Lib.hid (do_log 100 #[.pointer (some ⟨w.heap.size, 0, none⟩)] gl g v va vs d rd l
      (fun k d' l' => k = (l.reset d).2.2 ∧ d' = (l.reset d).2.1 ∧ { l' with bad := (k == 3) } = (l.reset d).1) w w1 h hb1 hbad (fun W => enters_reset W _) (by
        intro W hW
        have hS := (h.below hb1).below hW
        refine (reset1_any gl g _ v va d rd l W hS.disk hS.cells (B0.below hW B0.lt) hfit hep).mono ?_
        rintro e w' ⟨he, hd, hl, ho⟩
        have hk := hS.kinds
        have hro := hS.rows.only ho (lF_kinds hS.disk hS.cells) (by decide) (by decide)
        have hoo : Only (lFa gl g v va) W w' := ho.mono (fun _ _ h => .inl h)
        rw [reset_eq d hbad]
        cases hok : (d.run (resetOps l)).2
        · rw [hok] at he hl
          exact ⟨3, va, vs, _, l, he.endK, hbad, ⟨rfl, rfl, rfl⟩, ⟨hd, hl, hro⟩, Sep.refl _ _, RSep.refl hS.rows.own, hoo⟩
        · rw [hok] at he hl
          exact ⟨0, .slice none 0 0, [], _, resetLg l, he.endK, hbad, ⟨rfl, rfl, by cases l; simp at hbad; subst hbad; rfl⟩, ⟨hd, hl, nil_rows w'⟩, (fun b hb => by cases hb), RSep.nil _ _, hoo⟩))
    obtain ⟨cB, _⟩ := facts1 B0
    clear h hb1 B0 hbad
    go_enter Tryd.func72, Tryd.ntmps72
    go_wp2_with fail
    refine HD.out.mono ?_
    intro e w3 hpost
    have HP := Lib.hid (hpost.out (r := l.reset d) (fun k d' l' ⟨h1, h2, h3⟩ => by rw [h3, h2, h1]))
    obtain ⟨k, va', vs', d', l', hp, rfl, hst, hs, _, ho⟩ := hpost
    have HE := Lib.hid hp.1
    clear hp hst hs ho
    go_wp2_with fail
    go_ret
    exact HP.out
  · have HDB := Lib.hid (do_bad gl g va l (.func (.func 100) #[] #[.pointer (some ⟨w.heap.size, 0, none⟩)]) _ (h.cells.below hb1) hbad)
    have HBD := Lib.hid hbad
    clear h hb1 hbad
    go_enter Tryd.func72, Tryd.ntmps72
    go_wp2_with fail
    refine HDB.out.mono ?_
    rintro e w' ⟨rfl, rfl⟩
    go_wp2_with fail
    go_ret
    exact LogOut.same HS.out HB1.out (reset_bad d HBD.out)
end Go.Proofs.YtljmklohgpaopaaDoor

namespace Go.Proofs.YtljmklohgpaopaaDoor
open Go.RowKit

theorem sizeBuilder : (Tryd.prog.info? 170).map (·.size) = some 2 := by kernel_rfl
theorem liesBuilder : liesAt Tryd.prog Tryd.prog.depth 170 (2 / Tryd.prog.cellsOf 170) 0 170 1 = true := by kernel_rfl
theorem cellsByte : Tryd.prog.cellsOf 5 = 1 := by kernel_rfl
theorem callNoEscape (args : Array Value) (w : World) : (callFunc 115 args).run Tryd.prog w = ((Extern.AbiNoEscape.same args).run Tryd.prog w).andThen fun v w' => .ok (.value v) w' :=
  @run_callFunc_extern Tryd.prog 115 _ Extern.AbiNoEscape.same Tryd.func115 (by kernel_rfl) (by kernel_rfl) (by kernel_rfl) (by kernel_rfl) args w

/-- A builder at block b: has it been written; what it holds. -/
structure BdAt (w : World) (base b : Nat) (used : Bool) (l : List UInt8) : Prop where
  base_ : base ≤ b
  cells : ∃ vb, Blk w b 170 [.pointer (if used then some ⟨b, 0, none⟩ else none), vb] ∧ w.ownsRow base 5 1 vb l.length (bv l)
theorem facts2 {w : World} {g : Nat} {t : TypeId} {a0 a1 : Value} (h : Blk w g t [a0, a1]) : w.cell? ⟨g, 0, none⟩ = some a0 ∧ w.cell? ⟨g, 1, none⟩ = some a1 ∧ w.frozen? ⟨g, 0, none⟩ = false ∧ w.frozen? ⟨g, 1, none⟩ = false := ⟨h.cell 0, h.cell 1, h.frozen 0, h.frozen 1⟩
theorem BdAt.below {w w' : World} {base b : Nat} {used : Bool} {l : List UInt8} (h : BdAt w base b used l) (hb : Below w.heap.size w w') : BdAt w' base b used l := by
  obtain ⟨vb, h1, h2⟩ := h.cells
  exact ⟨h.base_, vb, h1.below hb h1.lt, own_below h2 hb⟩

set_option maxHeartbeats 1000000 in
theorem copyCheck_used (b : Nat) (w : World) (h0 : w.cell? ⟨b, 0, none⟩ = some (.pointer (some ⟨b, 0, none⟩))) :
    Calls Tryd.prog 109 #[.pointer (some ⟨b, 0, none⟩)] w fun e w' => e = .returned (.tuple #[]) ∧ w = w' := by
  obtain ⟨j, hj, _⟩ := Option.map_eq_some_iff.1 sizeBuilder
  have hq := Lib.run_neq_ptr_same (P := Tryd.prog) w ⟨b, 0, none⟩ Tryd.underlying168 hj
  go_enter Tryd.func109, Tryd.ntmps109
  go_wp2
  go_end0
  exact ⟨rfl, rfl⟩

set_option maxHeartbeats 1000000 in
theorem copyCheck_fresh (b : Nat) (w : World) (vb : Value) (hb : Blk w b 170 [.pointer none, vb]) :
    Calls Tryd.prog 109 #[.pointer (some ⟨b, 0, none⟩)] w fun e w' => e = .returned (.tuple #[]) ∧ w.setCell ⟨b, 0, none⟩ (.pointer (some ⟨b, 0, none⟩)) = w' := by
  obtain ⟨j, hj, hjs⟩ := Option.map_eq_some_iff.1 sizeBuilder
  obtain ⟨c0, c1, f0, f1⟩ := facts2 hb
  have hsh : w.shape? b = some (170, 2) := by
    have h := hb
    unfold Blk at h
    simp [World.shape?, h]
  have k1 := Lib.run_to_unsafe (P := Tryd.prog) w ⟨b, 0, none⟩ Tryd.underlying168 Tryd.underlying174 hj (by rw [hjs]; decide) hsh (Nat.zero_lt_succ 1)
  have k2 := Lib.run_from_unsafe (P := Tryd.prog) w ⟨b, 0, none⟩ Tryd.underlying174 Tryd.underlying168 hj hsh liesBuilder
  have k3 : (callFunc 115 #[.pointer (some ⟨b, 0, none⟩)]).run Tryd.prog w = .ok (.value (.pointer (some ⟨b, 0, none⟩))) w := by
    rw [callNoEscape, Lib.run_noEscape]
    rfl
  have hq := Lib.run_neq_ptr_same (P := Tryd.prog) (w.setCell ⟨b, 0, none⟩ (.pointer (some ⟨b, 0, none⟩))) ⟨b, 0, none⟩ Tryd.underlying168 hj
  clear hb hj hjs hsh
  go_enter Tryd.func109, Tryd.ntmps109
  go_wp2
  go_end0
  exact ⟨rfl, rfl⟩

theorem hbv {base n b : Nat} {v : Value} {xs cs : List Value} (w0 : World) (h : w0.ownsRow base 5 1 v n xs) (hb : Blk w0 b 170 cs) : some b ≠ v.ownBlock := fun e => by
  have := (own_typ h e.symm).uniq hb.typ
  revert this
  decide
theorem bv_ones (l : List UInt8) : ∀ u ∈ bv l, u.oneCell' = true := bv_one l

set_option maxHeartbeats 2000000 in
set_option maxRecDepth 100000 in
theorem bWrite_any (base b : Nat) (used : Bool) (l t : List UInt8) (A : Option Addr) (cap : Nat) (w : World) (h : BdAt w base b used l) (hs : Src w A (bv t)) (hA : ∀ p, A = some p → p.block ≠ b) (hlen : l.length + t.length ≤ 1000000) (hbase : base ≤ w.heap.size) :
    Calls Tryd.prog 97 #[.pointer (some ⟨b, 0, none⟩), .slice A t.length cap] w fun e w' => e = .returned (.tuple #[.int .i64 (t.length : Nat), .nilIface]) ∧ BdAt w' base b true (l ++ t) ∧ Below base w w' := by
  obtain ⟨i0, hi, hz0, hz1, hz2⟩ := info_parts Tryd.infoByte
  obtain ⟨hbb, vb, hB, hown⟩ := h
  obtain ⟨w1, hcc, hB1, hown1, hs1, hbel1⟩ : ∃ w1, Calls Tryd.prog 109 #[.pointer (some ⟨b, 0, none⟩)] w (fun e w' => e = .returned (.tuple #[]) ∧ w1 = w') ∧ Blk w1 b 170 [.pointer (some ⟨b, 0, none⟩), vb] ∧ w1.ownsRow base 5 1 vb l.length (bv l) ∧ Src w1 A (bv t) ∧ Below base w w1 := by
    cases used with
    | true => exact ⟨w, copyCheck_used b w (hB.cell 0), hB, hown, hs, Below.refl _ _⟩
    | false =>
      have ho : Only (· = b) w (w.setCell ⟨b, 0, none⟩ (.pointer (some ⟨b, 0, none⟩))) := (Only.refl (· = b) w).setCell (p := ⟨b, 0, none⟩) (.inl rfl) _
      have hk : Kinds (· = b) w [170] := by
        rintro k rfl
        exact ⟨_, by simp, hB.typ⟩
      exact ⟨_, copyCheck_fresh b w vb hB, hB.set_ 0 _, ho.own_ hk hown (by decide), ho.src hs (fun p hp e => hA p hp e), (Below.refl _ _).setCell (p := ⟨b, 0, none⟩) hbb _⟩
  obtain ⟨c0, c1, f0, f1⟩ := facts2 hB1
  have HCC := Lib.hid hcc
  have HB1 := Lib.hid hB1
  have HOWN := Lib.hid hown1
  have HS := Lib.hid hs1
  have hsz := hbel1.size
  have HBEL := Lib.hid hbel1
  have h63 : Hid (l.length + t.length ≤ maxLen) := by rw [Hid]; simp only [maxLen]; omega
  have hroom := Lib.hid (byte_room (n := l.length) (m := t.length) (by omega))
  have hbase1 : base ≤ w1.heap.size := Nat.le_trans hbase hsz
  have hlb := HB1.out.lt
  clear hcc hB hown hs hB1 hown1 hs1 hbel1
  go_enter Tryd.func97, Tryd.ntmps97
  go_wp2_with fail
  refine HCC.out.mono ?_
  rintro e w' ⟨rfl, rfl⟩
  go_wp2_with (at_builtin
               refine wpList_append_src _ rfl (.tmp 12) (.tmp 13) 23 rfl base 5 i0 (.int .u8 0) 1 1 Tryd.underlying23 hi hz0 hz1 hz2 rfl (by decide) vb l.length (bv l) rfl HOWN.out A t.length cap (bv t) rfl (by simp) HS.out (bv_ones t) h63.out hroom.out hbase1 ?_
               intro v2 w2 hown2 hgrow2 hat2
               obtain ⟨A2, cap2, rfl, _, _, _⟩ := own_src hown2
               have hB2 := HB1.out.grown hgrow2 (hbv w1 HOWN.out HB1.out)
               obtain ⟨d0, d1, g0, g1⟩ := facts2 hB2
               have HB2 := Lib.hid hB2
               have HOWN2 := Lib.hid hown2
               have HBEL2 := Lib.hid (HBEL.out.grown hgrow2 hbase1 (fun k hk => (HOWN.out.lt k hk).1))
               clear hB2 hown2 hgrow2 hat2 c0 c1 f0 f1)
  go_ret2
  refine ⟨rfl, ⟨hbb, _, HB2.out.set_ 1 _, ?_⟩, HBEL2.out.setCell (p := ⟨b, 1, none⟩) hbb _⟩
  have := HOWN2.out
  rw [← bv_append] at this
  rw [List.length_append]
  exact Only.own ((Only.refl (· = b) w2).setCell (p := ⟨b, 1, none⟩) (.inl rfl) _) this (fun k hk e => hbv w2 this HB2.out (by rw [hk, e]))

set_option maxHeartbeats 2000000 in
set_option maxRecDepth 100000 in
theorem bString_any (base b : Nat) (used : Bool) (l : List UInt8) (w : World) (h : BdAt w base b used l) (h0 : l ≠ []) (hlen : l.length ≤ 1000000) :
    Calls Tryd.prog 98 #[.pointer (some ⟨b, 0, none⟩)] w fun e w' => e = .returned (.string (tstr l)) ∧ Below base w w' := by
  obtain ⟨hbb, vb, hB, hown⟩ := h
  have hl0 : l.length ≠ 0 := by simpa using h0
  obtain ⟨g, cap, cur, rfl, hbg, hg, hnc, hcm, hcs, htake⟩ : ∃ g cap cur, vb = .slice (some ⟨g, 0, none⟩) l.length cap ∧ base ≤ g ∧ w.heap[g]? = some (.cells cur 5 (0, 0)) ∧ l.length ≤ cap ∧ cap ≤ maxLen ∧ cur.size = cap * 1 ∧ cur.toList.take (l.length * 1) = bv l := by
    rcases hown.2 with ⟨_, hz⟩ | ⟨g, cap, cur, hv, r⟩
    · exact absurd hz hl0
    · exact ⟨g, cap, cur, hv, r⟩
  have c1 : w.drew.cell? ⟨b, 1, none⟩ = some (.slice (some ⟨g, 0, none⟩) l.length cap) := (hB.drew).cell 1
  have hSD : (Builtin.unsafeSliceData_ #[23] 195 #[.slice (some ⟨g, 0, none⟩) l.length cap]).run Tryd.prog w.drew = .ok (.pointer (some ⟨g, 0, none⟩)) w.drew :=
    Lib.run_unsafeSliceData_row _ _ _ _ _ _ (by omega)
  have hUS : (Builtin.unsafeString_ #[195, 3] 9 #[.pointer (some ⟨g, 0, none⟩), .int .i64 l.length]).run Tryd.prog w.drew = .ok (.string (tstr l)) (w.drew.freeze ⟨g, 0, none⟩ l.length) := by
    refine Lib.run_unsafeString_row w.drew 195 3 9 5 Tryd.underlying195 cellsByte g cur.size (by have hg' : w.drew.heap[g]? = some (.cells cur 5 (0, 0)) := hg; simp [World.shape?, hg']) l h0 (by omega) (by unfold maxLen at hcm; omega) ?_
    intro j x hx
    have hj : j < l.length := (List.getElem?_eq_some_iff.1 hx).1
    have he : l[j] = x := (List.getElem?_eq_some_iff.1 hx).2
    exact hown.cells (g := g) rfl j (.int .u8 x.toNat) (by rw [getb l j hj, he])
  have HW := Lib.hid hbg
  clear hB hown hg hnc hcm hcs htake h0 hl0 hbg
  go_enter Tryd.func98, Tryd.ntmps98
  go_wp2_with fail
  go_region
  all_goals
    go_wp2_with fail
    go_ret
    exact ⟨rfl, Lib.below_freeze (Below.drew (Below.refl base w)) (p := ⟨g, 0, none⟩) HW.out _⟩
end Go.Proofs.YtljmklohgpaopaaDoor

namespace Go.Proofs.YtljmklohgpaopaaDoor
namespace Pl

theorem pieces_get (k : Nat) : ∀ p : List UInt8, 240 * k < p.length → (pieces p)[k]? = some (decide (240 < p.length - 240 * k), (p.drop (240 * k)).take 240) := by
  induction k with
  | zero =>
    intro p h
    rw [pieces]
    by_cases hs : p.length ≤ 240
    · rw [dif_pos hs]
      simp
      exact ⟨by omega, (List.take_of_length_le hs).symm⟩
    · rw [dif_neg hs]
      simp
      omega
  | succ k ih =>
    intro p h
    rw [pieces, dif_neg (by omega), List.getElem?_cons_succ, ih (p.drop 240) (by rw [List.length_drop]; omega), List.length_drop, List.drop_drop]
    rw [show 240 + 240 * k = 240 * (k + 1) by omega, show p.length - 240 - 240 * k = p.length - 240 * (k + 1) by omega]
theorem laid_get (l : Lg) (ps : List (Bool × List UInt8)) : ∀ (i k : Nat), (l.laid i ps)[k]? = (ps[k]?).map fun x => .wr (l.at_ (i + k)) (pieceText l.epoch (i + k) x.1 x.2) := by
  induction ps with
  | nil => intro i k; simp [Lg.laid]
  | cons a r ih =>
    intro i k
    obtain ⟨m, c⟩ := a
    match k with
    | 0 => simp [Lg.laid]
    | k + 1 => rw [Lg.laid, List.getElem?_cons_succ, ih, List.getElem?_cons_succ, show i + 1 + k = i + (k + 1) by omega]
theorem laid_length (l : Lg) (ps : List (Bool × List UInt8)) : ∀ i, (l.laid i ps).length = ps.length := by
  induction ps with
  | nil => intro i; rfl
  | cons a r ih => intro i; obtain ⟨m, c⟩ := a; simp [Lg.laid, ih]
/-- The head of a piece. -/
def pieceHead (e i : Nat) (more : Bool) (n : Nat) : List UInt8 := 76 :: (be 8 e ++ be 4 i ++ [if more then 1 else 0] ++ be 2 n)
theorem pieceText_head (e i : Nat) (more : Bool) (c : List UInt8) : pieceText e i more c = pieceHead e i more c.length ++ c := by simp [pieceText, pieceHead]
theorem pieceHead_length (e i : Nat) (more : Bool) (n : Nat) : (pieceHead e i more n).length = 16 := by simp [pieceHead, be_length]
def appendOps (l : Lg) (p : List UInt8) : List Ch := l.laid l.next (pieces p)
def appLg (l : Lg) (p : List UInt8) : Lg := { l with next := l.next + chunks p.length, all := l.all ++ [p] }
theorem appendOps_length (l : Lg) (p : List UInt8) (h : 1 ≤ p.length) : (appendOps l p).length = chunks p.length := by
  rw [appendOps, laid_length, pieces_length p.length p (Nat.le_refl _) h]
theorem chunk_lt {n k : Nat} (h : k < chunks n) : 240 * k < n := by unfold chunks at h; omega
/-- Which change the k-th piece is. -/
def appCh (l : Lg) (p : List UInt8) (k : Nat) : Ch := .wr (l.at_ (l.next + k)) (pieceText l.epoch (l.next + k) (decide (240 < p.length - 240 * k)) ((p.drop (240 * k)).take 240))
theorem appendOps_get (l : Lg) (p : List UInt8) (k : Nat) (h : k < chunks p.length) : (appendOps l p)[k]? = some (appCh l p k) := by
  rw [appendOps, laid_get, pieces_get k p (chunk_lt h)]
  rfl
theorem appendOps_succ (l : Lg) (p : List UInt8) (k : Nat) (h : k < chunks p.length) (h1 : 1 ≤ p.length) : (appendOps l p).take (k + 1) = (appendOps l p).take k ++ [appCh l p k] := by
  have hl : k < (appendOps l p).length := by rw [appendOps_length l p h1]; exact h
  have hg := appendOps_get l p k h
  rw [List.getElem?_eq_getElem hl] at hg
  rw [List.take_succ_eq_append_getElem hl, Option.some.inj hg]
theorem appendOps_split (l : Lg) (p : List UInt8) (k : Nat) (h : k < chunks p.length) (h1 : 1 ≤ p.length) : appendOps l p = (appendOps l p).take k ++ appCh l p k :: (appendOps l p).drop (k + 1) := by
  have hl : k < (appendOps l p).length := by rw [appendOps_length l p h1]; exact h
  have hg := appendOps_get l p k h
  rw [List.getElem?_eq_getElem hl] at hg
  conv => lhs; rw [← List.take_append_drop k (appendOps l p), List.drop_eq_getElem_cons hl, Option.some.inj hg]
end Pl
end Go.Proofs.YtljmklohgpaopaaDoor
