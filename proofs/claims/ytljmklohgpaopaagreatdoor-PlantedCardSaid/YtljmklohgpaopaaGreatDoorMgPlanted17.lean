/- A tree: change. The two variables that a row over trees lists; a world that meets them. -/
import Derived.Test.YtljmklohgpaopaaGreatDoorMgPlanted16
import Derived.Test.YtljmklohgpaopaaGreatDoorMgPlanted1
import Derived.Deep.Strs
import Derived.LaidLaws
set_option linter.unusedVariables false
set_option linter.unusedSimpArgs false

namespace Go.Proofs.YtljmklohgpaopaaGreatDoor
open Go.RowKit
set_option linter.unusedSectionVars false
variable [Inhabited LoT]

/-- The span of everything, as it was laid. -/
def EvAt (w : World) : Prop := w.cell? ⟨0, 0, none⟩ = some (.string (tstr [])) ∧ w.cell? ⟨0, 1, none⟩ = some (.string (tstr [])) ∧ w.cell? ⟨0, 2, none⟩ = some (.bool true)
theorem EvAt.tfr {w w' : World} (h : EvAt w) (hf : TFr w w') : EvAt w' := ⟨hf.ev _ _ rfl h.1, hf.ev _ _ rfl h.2.1, hf.ev _ _ rfl h.2.2⟩
theorem EvAt.drew {w : World} (h : EvAt w) : EvAt w.drew := h
def Tm.to (m : Tm) (r : Nat) : Tm := { m with root := r }
def TEnv.to (E : TEnv) (r : Nat) : TEnv := { E with m := E.m.to r }
/-- What becomes of a frame that bears a tree's own cells too. -/
structure TFt (gT : Nat) (w w' : World) : Prop where
  only : ∃ F, Only F w w' ∧ Kinds F w [168, 102, 158]
  ev : ∀ (p : Addr) (s : Value), p.block ≠ gT → plainV s = true → w.cell? p = some s → w'.cell? p = some s
  low : Only (fun k => LO ≤ k) w w'
  refs : ∀ r a v, RefAt w r a v → ∃ v', RefAt w' r a v' ∧ (v' = v ∨ v = .nilIface)
theorem TFr.tft {gT : Nat} {w w' : World} (h : TFr w w') : TFt gT w w' := by
  obtain ⟨F, h1, h2⟩ := h.only
  exact ⟨⟨F, h1, fun k hk => by obtain ⟨t, h3, h4⟩ := h2 k hk; refine ⟨t, ?_, h4⟩; simp only [List.mem_cons, List.not_mem_nil, or_false] at h3 ⊢; rcases h3 with rfl | rfl <;> simp⟩, fun p s _ => h.ev p s, h.low, h.refs⟩
theorem TFt.trans {gT : Nat} {a b c : World} (h : TFt gT a b) (k : TFt gT b c) : TFt gT a c := by
  obtain ⟨F, h1, h2⟩ := h.only
  obtain ⟨F', k1, k2⟩ := k.only
  refine ⟨⟨fun x => F x ∨ (x < a.heap.size ∧ F' x), (h1.mono (fun x _ hx => .inl hx)).trans k1 (fun x hx hF => .inr ⟨hx, hF⟩), ?_⟩, fun p s hp hs hc => k.ev p s hp hs (h.ev p s hp hs hc), h.low.trans' k.low, fun r x v hr => by
    obtain ⟨v', e1, e2⟩ := h.refs r x v hr
    obtain ⟨v2, e3, e4⟩ := k.refs r x v' e1
    exact ⟨v2, e3, by rcases e2 with rfl | e2; exact e4; exact .inr e2⟩⟩
  rintro x (hx | ⟨hx, hF⟩)
  · exact h2 x hx
  · rcases Classical.em (F x) with hf | hf
    · exact h2 x hf
    · obtain ⟨t, ht, cs, fz, hcs⟩ := k2 x hF
      exact ⟨t, ht, cs, fz, (h1.block x hx hf).symm.trans hcs⟩
theorem TFt.blk {gT : Nat} {w w' : World} (h : TFt gT w w') {k : Nat} {t : TypeId} {cs : List Value} (hb : Blk w k t cs) (h1 : t ∉ [168, 102, 158]) : Blk w' k t cs := by
  obtain ⟨F, ho, hF⟩ := h.only
  exact ho.blk_ hF hb h1
/-- The root is laid into the tree. -/
theorem TW.root {E : TEnv} {w : World} {rd : Int} {G : Gh} (h : TW E w rd G) (r : Nat) : TW (E.to r) (w.setCell ⟨E.gT, 3, none⟩ (refV r)) rd G ∧ TFt E.gT w (w.setCell ⟨E.gT, 3, none⟩ (refV r)) := by
  have ho : Only (· = E.gT) w (w.setCell ⟨E.gT, 3, none⟩ (refV r)) := (Only.refl (· = E.gT) w).setCell (p := ⟨E.gT, 3, none⟩) (.inl rfl) _
  have hk := one_kinds h.tree
  exact ⟨⟨h.tree.set_ 3 _, h.disk.only_ ho hk (by decide) (by decide), h.inv.only ho hk (by decide) (by decide), h.room, ⟨h.low.g, h.low.d, h.low.t⟩⟩, ⟨⟨_, ho, fun k hk' => by subst hk'; exact ⟨158, by simp, h.tree.typ⟩⟩, fun p s hp _ hc => ho.cell hc hp, ho.mono (fun x _ hx => by rw [hx]; exact h.low.t), fun r a v hr => ⟨v, ho.blk hr (hr.ne h.tree (by decide)), .inl rfl⟩⟩⟩
theorem upR_one {h : Nat} {r : Pl.Row h} {t : Pl.Tr h} (hr : r.1 = [t]) : Pl.upR r = ⟨h, t⟩ := by unfold Pl.upR; rw [hr]
theorem upR_many {h : Nat} {r : Pl.Row h} (hr : r.1.length ≠ 1) : Pl.upR r = ⟨h + 1, ((r.2, r.1) : List Pl.Key × List (Pl.Tr h))⟩ := by
  unfold Pl.upR
  split
  · next t ht => rw [ht] at hr; simp at hr
  · rfl
theorem downR_one {h : Nat} {n : List Pl.Key × List (Pl.Tr h)} {c : Pl.Tr h} (hn : n.2 = [c]) : Pl.downR ⟨h + 1, n⟩ = ⟨h, c⟩ := by
  obtain ⟨ks, cs⟩ := n
  rw [Pl.downR_eq]
  have : cs = [c] := hn
  rw [this]
theorem downR_many {h : Nat} {n : List Pl.Key × List (Pl.Tr h)} (hn : n.2.length ≠ 1) : Pl.downR ⟨h + 1, n⟩ = ⟨h + 1, n⟩ := by
  obtain ⟨ks, cs⟩ := n
  rw [Pl.downR_eq]
  match cs, hn with
  | [], _ => rfl
  | [c], hn => exact absurd rfl hn
  | a :: b :: r, _ => rfl
/-- How change ends. -/
def ChPost (E : TEnv) (k : Nat) (rd : Int) (G : Gh) (x : Pl.Any) (none_ : Prop) (w : World) (e : Ending) (w' : World) : Prop :=
  (∃ G' rd' r' fr, e = .returned (.tuple #[]) ∧ TW (E.to r') w' rd' G' ∧ Ext G G' ∧ G' r' = some x ∧ FrN w' x.1 x.2 r' fr ∧ fr + E.m.pages + 2 ≤ E.m.n ∧ TFt E.gT w w' ∧ RdK k rd rd' ∧ ¬ none_)
  ∨ (∃ G' rd' fr, e = tdied 5 ∧ TW E w' rd' G' ∧ Ext G G' ∧ TFt E.gT w w' ∧ RdK k rd rd' ∧ fr ≤ Pl.pgs x.1 x.2 ∧ E.m.n < fr + E.m.pages + 2 ∧ ¬ none_)
  ∨ (E.d.life = 0 ∧ e = tdied 3 ∧ (∃ rd', DiskAt w' E.m.g E.vD E.d rd') ∧ TFt E.gT w w' ∧ TmAt w' E.gT E.m)
  ∨ (none_ ∧ e = tdied 8 ∧ ∃ G' rd', TW E w' rd' G' ∧ Ext G G' ∧ TFt E.gT w w' ∧ RdK k rd rd')
theorem FrN.cells {w w' : World} (hr : ∀ r a v, RefAt w r a v → RefAt w' r a v) (hp : ∀ v pg, PgAt w v pg → PgAt w' v pg) : ∀ (h : Nat) (t : Pl.Tr h) (r f : Nat), FrN w h t r f → FrN w' h t r f
  | 0, t, r, f, ⟨a, v, h1, h2⟩ => ⟨a, v, hr _ _ _ h1, h2⟩
  | h + 1, t, r, f, ⟨a, v, h1, h2⟩ => ⟨a, v, hr _ _ _ h1, h2.imp id fun ⟨h3, rs, F, h4, h5, h6, h7⟩ => ⟨h3, rs, F, hp _ _ h4, h5, h6, fun j x c hx hc => FrN.cells hr hp h c x (F j) (h7 j x c hx hc)⟩⟩
theorem FrN.only {F : Nat → Prop} {w w' : World} {ts : List TypeId} (ho : Only F w w') (hF : Kinds F w ts) (h1 : 168 ∉ ts) (h2 : ∀ t ∈ pageTypes, t ∉ ts) {h : Nat} {t : Pl.Tr h} {r f : Nat} (h3 : FrN w h t r f) : FrN w' h t r f :=
  FrN.cells (fun _ _ _ hr => ho.blk_ hF hr h1) (fun _ _ hp => hp.only ho hF h2) h t r f h3

/-- A row taken apart. -/
theorem RowAt.parts {w : World} {G : Gh} {h n ca k cb : Nat} {A B : Option Addr} {r : Pl.Row h} (hr : RowAt w G h (.agg #[.slice A n ca, .slice B k cb]) r) : n = r.2.length ∧ k = r.1.length ∧ n ≤ ca ∧ k ≤ cb ∧ TSrc w A (ksCells r.2) 9 ∧ ∃ vs, TSrc w B vs 166 ∧ vs.length = r.1.length ∧
    ∀ (i : Nat) (v : Value) (t : Pl.Tr h), vs[i]? = some v → r.1[i]? = some t → PgOk w G v h t none := by
  obtain ⟨A', ca', B', cb', vs, e, h1, h2, h3, h4, h5, h6⟩ := hr
  injection e with e
  injection e with e
  injection e with e1 e
  injection e with e2 e
  injection e1 with a1 a2 a3
  injection e2 with b1 b2 b3
  subst a1 a2 a3 b1 b2 b3
  exact ⟨rfl, rfl, h1, h2, h3, vs, h4, h5, h6⟩
set_option maxRecDepth 100000 in
set_option maxHeartbeats 8000000 in
theorem change_any (E : TEnv) (K : FuncId) (caps : Array Value) (f : List Pl.Pr → List Pl.Pr) (none_ : List Pl.Pr → Prop) (key : Pl.Key) (hK : ∀ (args : Array Value) (W : World), (callFunc K args).run Tryz.prog W = .ok (.enter K args) W)
    (hf : ∀ ps : List Pl.Pr, Pl.RFit 0 ps → (∀ p ∈ f ps, Pl.PrFit p) ∧ Pl.lsz (f ps) ≤ 400) (hn : E.m.n ≤ 4096) (hpg : E.m.pages ≤ 4096) (h : Nat) (t : Pl.Tr h) (w : World) (rd : Int) (G : Gh) (hw : TW E w rd G) (hG : G E.m.root = some ⟨h, t⟩) (hok : Pl.RootOk ⟨h, t⟩) (hh : h ≤ 62)
    (hpgs : Pl.pgs (Pl.newRoot f key ⟨h, t⟩).1 (Pl.newRoot f key ⟨h, t⟩).2 ≤ 50000) (hF : FOk K caps key f none_ w) (hev : EvAt w) :
    Calls Tryz.prog 91 #[.pointer (some ⟨E.gT, 0, none⟩), .string (tstr key), .func (.func K) #[] caps] w (ChPost E (2 * (h + 1)) rd G (Pl.newRoot f key ⟨h, t⟩) (none_ (Pl.leafOf h t key)) w) := by
  have hin : Pl.InS [] none key := ⟨Pl.knil key, fun y hy => by cases hy⟩
  obtain ⟨hrf, hsp⟩ := hok
  obtain ⟨hbc, hfew⟩ := Pl.changed_fit key hf h t hrf
  have hnr : Pl.newRoot f key ⟨h, t⟩ = Pl.downR (Pl.upR (Pl.changed f key h t)) := rfl
  have HCH := Lib.hid (fun (W : World) (hW : TW E W rd G) (hFW : FOk K caps key f none_ W) => changed_any E K caps f none_ key hK hf hn h t E.m.root 0 [] none W rd G hW hG hrf hsp hin (by omega) hFW)
  obtain ⟨x9, hx9⟩ : ∃ x, Pl.newRoot f key ⟨h, t⟩ = x := ⟨_, rfl⟩
  rw [hx9] at hnr hpgs ⊢
  obtain ⟨ROW, hROW⟩ : ∃ x, Pl.changed f key h t = x := ⟨_, rfl⟩
  rw [hROW] at HCH hbc hfew hnr
  have hlen : ROW.1.length = ROW.2.length + 1 := by
    rcases hbc with h1 | ⟨h1, t', h2, _⟩
    · exact h1.1
    · rw [h1, h2]; rfl
  have HLEN := Lib.hid hlen
  have HFEW := Lib.hid hfew
  have HNR := Lib.hid hnr
  have HPGS := Lib.hid hpgs
  have HW := Lib.hid hw
  have HFF := Lib.hid hF
  have HEV := Lib.hid hev
  have e0 : spanV [] none = .agg #[.string (tstr []), .string (tstr []), .bool true] := rfl
  rw [e0] at HCH
  unfold refV at HCH
  obtain ⟨root, hroot⟩ : ∃ x, E.m.root = x := ⟨_, rfl⟩
  have cells : ∀ W, TFr w W → (W.cell? ⟨E.gT, 3, none⟩ = some (.pointer (some ⟨root, 0, none⟩)) ∧ W.cell? ⟨0, 0, none⟩ = some (.string (tstr [])) ∧ W.cell? ⟨0, 1, none⟩ = some (.string (tstr [])) ∧ W.cell? ⟨0, 2, none⟩ = some (.bool true)) := fun W hT => by
    have h1 := hT.blk hw.tree (by decide) (by decide)
    have h2 := hev.tfr hT
    exact ⟨hroot ▸ h1.cell 3, h2.1, h2.2.1, h2.2.2⟩
  have CELLS := Lib.hid cells
  have C0 := Lib.hid (cells w (TFr.refl w))
  rw [hroot] at HCH
  have HT0 : Hid (TFr w w.drew) := TFr.of_below ((Below.refl w.heap.size w).drew)
  have HC1 := Lib.hid (HCH.out w.drew (hw.below ((Below.refl w.heap.size w).drew)) (hF.tfr HT0.out))
  obtain ⟨W1, hW1⟩ : ∃ W, World.alloc w.drew (.cells #[.slice none 0 0, .slice none 0 0] 242) = W := ⟨_, rfl⟩
  have hbk : Below w.heap.size w W1 := by rw [← hW1]; exact ((Below.refl w.heap.size w).drew).alloc (Nat.le_refl _) _
  have HTA : Hid (TFr w W1) := TFr.of_below hbk
  obtain ⟨gx, hgx⟩ : ∃ g, Array.size (World.heap w.drew) = g := ⟨_, rfl⟩
  have hgx' : w.heap.size = gx := hgx
  have HGX := Lib.hid hgx'
  have BX1 : Hid (Blk W1 gx 242 [.slice none 0 0, .slice none 0 0]) := by rw [Hid, ← hW1, ← hgx]; exact Blk.new w.drew 242 _
  have CA := Lib.hid (CELLS.out W1 HTA.out)
  have HC2 := Lib.hid (HCH.out W1 (hw.below hbk) (hF.tfr HTA.out))
  clear hx9 hw hF hev hG hrf hsp hin hbc hfew hnr hpgs hlen hROW hroot cells hbk hgx' HCH
  go_enter Tryz.func91, Tryz.ntmps91
  go_upto_region 0 with fail
  go_cut [6] from 11 (fun s6 wx => ∃ (gx : Nat) (G1 : Gh) (rd1 : Int) (Ak : Option Addr) (ca : Nat) (Ap : Option Addr) (cb : Nat), s6 = .pointer (some ⟨gx, 0, none⟩) ∧ Hid (Blk wx gx 242 [.slice Ak ROW.2.length ca, .slice Ap ROW.1.length cb]) ∧ Hid (TW E wx rd1 G1) ∧ Hid (Ext G G1) ∧ Hid (TFr w wx) ∧ Hid (RdK (2 * (h + 1)) rd rd1 ∧ ¬ none_ (Pl.leafOf h t key)) ∧ Hid (RowAt wx G1 h (.agg #[.slice Ak ROW.2.length ca, .slice Ap ROW.1.length cb]) ROW))
  case first =>
    refine wp_region_L 10 (fun W => W.cell? ⟨E.gT, 3, none⟩ = some (.pointer (some ⟨root, 0, none⟩)) ∧ W.cell? ⟨0, 0, none⟩ = some (.string (tstr [])) ∧ W.cell? ⟨0, 1, none⟩ = some (.string (tstr [])) ∧ W.cell? ⟨0, 2, none⟩ = some (.bool true)) (fun _ => True) (by kernel_rfl) C0.out trivial (fun hTill => ?_)
    refine wpL_take' (i := 0) (oi := _) (v := ?_) rfl (by kernel_rfl) (by kernel_rfl) (by kernel_rfl) (by kernel_rfl) (fun _ _ _ h => h) (.inl ⟨by rfl, ?_⟩) (by assumption) ?_
    rotate_left
    · intro W hSw
      (try dsimp only at hSw)
      go_simp
      (try rfl)
    (try simp only [Act.put, List.getElem_toArray, List.getElem_cons_succ, List.getElem_cons_zero, List.setIfInBounds_toArray, List.set_cons_zero, List.set_cons_succ])
    refine wpL_take' (i := 1) (oi := _) (v := ?_) rfl (by kernel_rfl) (by kernel_rfl) (by kernel_rfl) (by kernel_rfl) (fun _ _ _ h => h) (.inl ⟨by rfl, ?_⟩) (by assumption) ?_
    rotate_left
    · intro W hSw
      (try dsimp only at hSw)
      go_simp
      (try rfl)
    (try simp only [Act.put, List.getElem_toArray, List.getElem_cons_succ, List.getElem_cons_zero, List.setIfInBounds_toArray, List.set_cons_zero, List.set_cons_succ])
    refine wpL_take' (i := 2) (oi := _) (v := ?_) rfl (by kernel_rfl) (by kernel_rfl) (by kernel_rfl) (by kernel_rfl) (fun _ _ _ h => h) (.inl ⟨by rfl, ?_⟩) (by assumption) ?_
    rotate_left
    · intro W hSw
      (try dsimp only at hSw)
      go_simp
      (try rfl)
    (try simp only [Act.put, List.getElem_toArray, List.getElem_cons_succ, List.getElem_cons_zero, List.setIfInBounds_toArray, List.set_cons_zero, List.set_cons_succ])
    refine wpL_take' (i := 3) (oi := _) (v := ?_) rfl (by kernel_rfl) (by kernel_rfl) (by kernel_rfl) (by kernel_rfl) (fun _ _ _ h => h) (.inl ⟨by rfl, ?_⟩) (by assumption) ?_
    rotate_left
    · intro W hSw
      (try dsimp only at hSw)
      go_simp
      (try rfl)
    (try simp only [Act.put, List.getElem_toArray, List.getElem_cons_succ, List.getElem_cons_zero, List.setIfInBounds_toArray, List.set_cons_zero, List.set_cons_succ])
    refine wpL_take (i := 4) (oi := _) (v := ?_) rfl (by kernel_rfl) (by kernel_rfl) (by kernel_rfl) (by kernel_rfl) (fun _ _ _ h => h) (.inl ⟨by rfl, ?_⟩) (by assumption) ?_
    rotate_left
    · intro W hSw
      (try dsimp only at hSw)
      go_simp
      (try rfl)
    (try simp only [Act.put, List.getElem_toArray, List.getElem_cons_succ, List.getElem_cons_zero, List.setIfInBounds_toArray, List.set_cons_zero, List.set_cons_succ])
    refine wpL_take (i := 5) (oi := _) (v := ?_) rfl (by kernel_rfl) (by kernel_rfl) (by kernel_rfl) (by kernel_rfl) (fun _ _ _ h => h) (.inl ⟨by rfl, ?_⟩) (by assumption) ?_
    rotate_left
    · intro W hSw
      (try dsimp only at hSw)
      go_simp
      (try rfl)
    (try simp only [Act.put, List.getElem_toArray, List.getElem_cons_succ, List.getElem_cons_zero, List.setIfInBounds_toArray, List.set_cons_zero, List.set_cons_succ])
    refine wpL_take' (i := 6) (oi := _) (v := ?_) rfl (by kernel_rfl) (by kernel_rfl) (by kernel_rfl) (by kernel_rfl) (fun _ _ _ h => h) (.inl ⟨by rfl, ?_⟩) (by assumption) ?_
    rotate_left
    · intro W hSw
      (try dsimp only at hSw)
      go_simp
      (try rfl)
    (try simp only [Act.put, List.getElem_toArray, List.getElem_cons_succ, List.getElem_cons_zero, List.setIfInBounds_toArray, List.set_cons_zero, List.set_cons_succ])
    refine wpL_take' (i := 7) (oi := _) (v := ?_) rfl (by kernel_rfl) (by kernel_rfl) (by kernel_rfl) (by kernel_rfl) (fun _ _ _ h => h) (.inl ⟨by rfl, ?_⟩) (by assumption) ?_
    rotate_left
    · intro W hSw
      (try dsimp only at hSw)
      go_simp
      (try rfl)
    (try simp only [Act.put, List.getElem_toArray, List.getElem_cons_succ, List.getElem_cons_zero, List.setIfInBounds_toArray, List.set_cons_zero, List.set_cons_succ])
    refine wpL_ready (rs := [8, 9]) (by kernel_rfl) (by simp) ?_
    refine AllL.cons (o := _) rfl (fun K hK => ?_) (AllL.cons (o := _) rfl (fun K hK => ?_) AllL.nil)
    · go_simp
      refine HC1.out.mono ?_
      rintro e w1 h1
      rcases h1 with (⟨v1, G1, rd1, rfl, hW1', hE1, hT1, hR1, hP1, hY1⟩ | ⟨hal, rfl, ⟨rd5, hd5⟩, hT5⟩) | ⟨hno, rfl, G6, rd6, hW6, hE6, hT6, hR6⟩
      rotate_left
      · have HAL := Lib.hid hal
        have HD5 := Lib.hid hd5
        have HT5 := Lib.hid hT5
        clear hal hd5 hT5
        unfold tdied
        go_wp2_with fail
        exact ⟨rfl, .inr (.inr (.inl ⟨HAL.out, rfl, ⟨rd5, HD5.out⟩, ((HT0.out).trans HT5.out).tft, ((HT0.out).trans HT5.out).blk HW.out.tree (by decide) (by decide)⟩))⟩
      · have HNO := Lib.hid hno
        have HW6 := Lib.hid hW6
        have HE6 := Lib.hid hE6
        have HT6 := Lib.hid hT6
        have HR6 := Lib.hid hR6
        clear hno hW6 hE6 hT6 hR6
        unfold tdied
        go_wp2_with fail
        exact ⟨rfl, .inr (.inr (.inr ⟨HNO.out, rfl, G6, rd6, HW6.out, HE6.out, ((HT0.out).trans HT6.out).tft, HR6.out⟩))⟩
      have HQ1 := Lib.hid hP1
      have HY1 := Lib.hid hY1
      clear hY1
      obtain ⟨Ak, ck, Ap, cp, vs, rfl, _⟩ := hP1
      obtain ⟨W2, hW2⟩ : ∃ W, World.alloc w1 (.cells #[.slice none 0 0, .slice none 0 0] 242) = W := ⟨_, rfl⟩
      have hb2 : Below w1.heap.size w1 W2 := by rw [← hW2]; exact (Below.refl w1.heap.size w1).alloc (Nat.le_refl _) _
      obtain ⟨gy, hgy⟩ : ∃ g, Array.size (World.heap w1) = g := ⟨_, rfl⟩
      have BY : Hid (Blk W2 gy 242 [.slice none 0 0, .slice none 0 0]) := by rw [Hid, ← hW2, ← hgy]; exact Blk.new w1 242 _
      have HT1 : Hid (TFr w w1) := HT0.out.trans hT1
      have HT2 : Hid (TFr w W2) := HT1.out.below hb2
      have HLT : Hid (w.heap.size ≤ gy) := by rw [Hid, ← hgy]; exact HT1.out.size
      have HW2 := Lib.hid (hW1'.below hb2)
      have HE2 := Lib.hid hE1
      have HR2 := Lib.hid hR1
      have HQ2 := Lib.hid (HQ1.out.below hb2)
      have C1 := Lib.hid (CELLS.out w1 HT1.out)
      have C2 := Lib.hid (CELLS.out W2 HT2.out)
      clear hW1' hE1 hT1 hR1 hb2
      go_wp2_with fail
      refine hK.out _ _ ⟨fun _ => C1.out, trivial⟩ (fun hTill => ?_)
      clear hK K
      (try simp only [Act.put, List.getElem_toArray, List.getElem_cons_succ, List.getElem_cons_zero, List.setIfInBounds_toArray, List.set_cons_zero, List.set_cons_succ])
      refine wpL_ready (rs := [9]) (by kernel_rfl) (by simp) ?_
      refine AllL.cons (o := _) rfl (fun K hK => ?_) AllL.nil
      go_simp
      (try rw [hW2])
      refine hK.out _ _ ⟨fun _ => C2.out, trivial⟩ (fun hTill => ?_)
      clear hK K
      (try simp only [Act.put, List.getElem_toArray, List.getElem_cons_succ, List.getElem_cons_zero, List.setIfInBounds_toArray, List.set_cons_zero, List.set_cons_succ])
      obtain ⟨x0, x1, y0, y1⟩ := facts2 BY.out
      refine wpL_ready (rs := [10]) (by kernel_rfl) (by simp) ?_
      refine AllL.cons (o := _) rfl (fun K hK => ?_) AllL.nil
      go_simp
      refine hK.out _ _ ⟨fun h => Bool.noConfusion ((show _ = true by kernel_rfl).symm.trans h), trivial⟩ (fun hTill => ?_)
      clear hK K
      (try simp only [Act.put, List.getElem_toArray, List.getElem_cons_succ, List.getElem_cons_zero, List.setIfInBounds_toArray, List.set_cons_zero, List.set_cons_succ])
      refine wpL_done (by kernel_rfl) ?_ _
      clear hTill
      go_wp2_with fail
      go_meet
      case rel =>
        have ho := set2_only W2 gy (.slice Ak ROW.2.length ck) (.slice Ap ROW.1.length cp)
        have hk := one_kinds BY.out
        exact ⟨gy, G1, rd1, Ak, ck, Ap, cp, rfl, (BY.out.set_ 0 _).set_ 1 _, HW2.out.only ho hk (by decide) (by decide) (by decide) (by decide) (by decide), HE2.out, HT2.out.since ho (fun x hx e => by have := HLT.out; omega), ⟨HR2.out, HY1.out⟩, row_done BY.out HQ2.out⟩
    · go_simp
      (try rw [hW1])
      refine hK.out _ _ ⟨fun _ => CA.out, trivial⟩ (fun hTill => ?_)
      clear hK K
      (try simp only [Act.put, List.getElem_toArray, List.getElem_cons_succ, List.getElem_cons_zero, List.setIfInBounds_toArray, List.set_cons_zero, List.set_cons_succ])
      refine wpL_ready (rs := [8]) (by kernel_rfl) (by simp) ?_
      refine AllL.cons (o := _) rfl (fun K hK => ?_) AllL.nil
      go_simp
      refine HC2.out.mono ?_
      rintro e w2 h1
      rcases h1 with (⟨v1, G1, rd1, rfl, hW1', hE1, hT1, hR1, hP1, hY1⟩ | ⟨hal, rfl, ⟨rd5, hd5⟩, hT5⟩) | ⟨hno, rfl, G6, rd6, hW6, hE6, hT6, hR6⟩
      rotate_left
      · have HAL := Lib.hid hal
        have HD5 := Lib.hid hd5
        have HT5 := Lib.hid hT5
        clear hal hd5 hT5
        unfold tdied
        go_wp2_with fail
        exact ⟨rfl, .inr (.inr (.inl ⟨HAL.out, rfl, ⟨rd5, HD5.out⟩, ((HTA.out).trans HT5.out).tft, ((HTA.out).trans HT5.out).blk HW.out.tree (by decide) (by decide)⟩))⟩
      · have HNO := Lib.hid hno
        have HW6 := Lib.hid hW6
        have HE6 := Lib.hid hE6
        have HT6 := Lib.hid hT6
        have HR6 := Lib.hid hR6
        clear hno hW6 hE6 hT6 hR6
        unfold tdied
        go_wp2_with fail
        exact ⟨rfl, .inr (.inr (.inr ⟨HNO.out, rfl, G6, rd6, HW6.out, HE6.out, ((HTA.out).trans HT6.out).tft, HR6.out⟩))⟩
      have HQ2 := Lib.hid hP1
      have HY1 := Lib.hid hY1
      clear hY1
      obtain ⟨Ak, ck, Ap, cp, vs, rfl, _⟩ := hP1
      have BY := Lib.hid (hT1.blk BX1.out (by decide) (by decide))
      have HT2 : Hid (TFr w w2) := HTA.out.trans hT1
      have HW2 := Lib.hid hW1'
      have HE2 := Lib.hid hE1
      have HR2 := Lib.hid hR1
      have C2 := Lib.hid (CELLS.out w2 HT2.out)
      clear hW1' hE1 hT1 hR1
      obtain ⟨x0, x1, y0, y1⟩ := facts2 BY.out
      go_wp2_with fail
      refine hK.out _ _ ⟨fun _ => C2.out, trivial⟩ (fun hTill => ?_)
      clear hK K
      (try simp only [Act.put, List.getElem_toArray, List.getElem_cons_succ, List.getElem_cons_zero, List.setIfInBounds_toArray, List.set_cons_zero, List.set_cons_succ])
      refine wpL_ready (rs := [10]) (by kernel_rfl) (by simp) ?_
      refine AllL.cons (o := _) rfl (fun K hK => ?_) AllL.nil
      go_simp
      refine hK.out _ _ ⟨fun h => Bool.noConfusion ((show _ = true by kernel_rfl).symm.trans h), trivial⟩ (fun hTill => ?_)
      clear hK K
      (try simp only [Act.put, List.getElem_toArray, List.getElem_cons_succ, List.getElem_cons_zero, List.setIfInBounds_toArray, List.set_cons_zero, List.set_cons_succ])
      refine wpL_done (by kernel_rfl) ?_ _
      clear hTill
      go_wp2_with fail
      go_meet
      case rel =>
        have ho := set2_only w2 gx (.slice Ak ROW.2.length ck) (.slice Ap ROW.1.length cp)
        have hk := one_kinds BY.out
        exact ⟨gx, G1, rd1, Ak, ck, Ap, cp, rfl, (BY.out.set_ 0 _).set_ 1 _, HW2.out.only ho hk (by decide) (by decide) (by decide) (by decide) (by decide), HE2.out, HT2.out.since ho (fun x hx e => by have := HGX.out; omega), ⟨HR2.out, HY1.out⟩, row_done BY.out HQ2.out⟩
  case rest =>
    obtain ⟨gy, G1, rd1, Ak, ca, Ap, cb, rfl, HBX, HWX, HEX, HTX, HRX, HQX⟩ := hcut
    obtain ⟨wx, hwx, HBX, HWX, HTX, HQX⟩ : ∃ x, x = wc ∧ Hid (Blk x gy 242 [.slice Ak ROW.2.length ca, .slice Ap ROW.1.length cb]) ∧ Hid (TW E x rd1 G1) ∧ Hid (TFr w x) ∧ Hid (RowAt x G1 h (.agg #[.slice Ak ROW.2.length ca, .slice Ap ROW.1.length cb]) ROW) := ⟨wc, rfl, HBX, HWX, HTX, HQX⟩
    subst hwx
    have HR1 : Hid (RdK (2 * (h + 1)) rd rd1) := HRX.out.1
    have HY1 : Hid (¬ none_ (Pl.leafOf h t key)) := HRX.out.2
    obtain ⟨_, _, hca, hcb, hka, vs, hpb, hvl, hve⟩ := RowAt.parts HQX.out
    obtain ⟨x8, hx8⟩ : ∃ x, Pl.upR ROW = x := ⟨_, rfl⟩
    have HX8 := Lib.hid hx8
    have HN8 : Hid (x9 = Pl.downR x8) := by rw [Hid, ← hx8]; exact HNR.out
    have hrf := refs_any Ap cb h vs ROW.1 wx G1 hpb hvl (by have := HLEN.out; have := HFEW.out; omega) hve
    have HVE := Lib.hid hve
    have HVL := Lib.hid hvl
    have HKA := Lib.hid hka
    obtain ⟨k, hk⟩ : ∃ x, ROW.1.length = x := ⟨_, rfl⟩
    have HK := Lib.hid hk
    have HCAP : Hid (ROW.2.length ≤ ca ∧ 0 < k ∧ k ≤ 4) := ⟨hca, by have := HLEN.out; omega, by have := HLEN.out; have := HFEW.out; omega⟩
    obtain ⟨c0, c1, d0, d1⟩ := facts2 HBX.out
    rw [hk] at hrf c1
    have HRF := Lib.hid hrf
    have q2 : (0 : Int) < (k : Int) := by have := HCAP.out; omega
    obtain ⟨L, hL⟩ : ∃ b, decide ((1 : Int) < (k : Int)) = b := ⟨_, rfl⟩
    have HL := Lib.hid hL
    clear hrf hve hvl hka hk hca hcb hpb hx8 HRX
    go_wp2_with fail
    refine HRF.out.mono ?_
    rintro e wy ⟨v, rs, rfl, hrw, hmade, hby⟩
    obtain ⟨AB, cB, rfl, hcB, htB, _⟩ := hrw.tsrc
    have hrl : rs.length = k := hmade.1
    obtain ⟨r0, hr0⟩ : ∃ x, rs[0]? = some x := ⟨_, List.getElem?_eq_getElem (by have := HCAP.out; omega)⟩
    obtain ⟨bk, off, rfl, g0⟩ := htB.1.at_ _ _ (refs_at hr0)
    unfold refV at g0
    rw [Nat.add_zero] at g0
    obtain ⟨i2, e2, k2⟩ := HWX.out.inv.refs hby (hmade.1.trans HK.out.symm) HVL.out hmade.2.1 (fun r hr => (hmade.2.2.1 r hr).1) hmade.2.2.2 HVE.out
    obtain ⟨G2, hG2⟩ : ∃ g, G1.kids wx.heap.size h rs ROW.1 = g := ⟨_, rfl⟩
    rw [hG2] at i2 e2 k2
    have hwx := HWX.out.below hby
    have HW2 : Hid (TW E wy rd1 G2) := ⟨hwx.tree, hwx.disk, i2, hwx.room, ⟨fun k x hk => by rw [← hG2] at hk; exact (Gh.kids_low hk).elim (HWX.out.low.g k x) (fun hl => Nat.le_trans HWX.out.base hl), hwx.low.d, hwx.low.t⟩⟩
    have HE2 := Lib.hid (HEX.out.trans e2)
    have HE12 := Lib.hid e2
    have HT2 := Lib.hid (HTX.out.below hby)
    have HK2 := Lib.hid k2
    have HR0 := Lib.hid hr0
    have HAT : Hid (∀ (i r : Nat) (v : Value), rs[i]? = some r → vs[i]? = some v → RefAt wy r 0 v) := hmade.2.2.2
    have HTB := Lib.hid htB
    have HRL := Lib.hid hrl
    have HCB := Lib.hid hcB
    have HBX2 := Lib.hid (HBX.out.below hby HBX.out.lt)
    have HKA2 := Lib.hid (HKA.out.below hby)
    have HBY := Lib.hid hby
    clear c0 c1 d0 d1
    obtain ⟨c0, _, _, _⟩ := facts2 HBX2.out
    rw [hrl] at hcB ⊢
    have HCB := Lib.hid hcB
    clear hrw hmade hby hrl hr0 i2 e2 k2 hG2 hwx htB hcB
    go_upto_if 28 with fail
    go_cut [8] from 29 (fun s8 wz => ∃ (r8 : Nat) (v8 : Value) (G3 : Gh), s8 = .pointer (some ⟨r8, 0, none⟩) ∧ Hid (G3 r8 = some x8) ∧ Hid (RefAt wz r8 0 v8) ∧ Hid (PgOk wz G3 v8 x8.1 x8.2 none) ∧ Hid (TW E wz rd1 G3) ∧ Hid (Ext G G3) ∧ Hid (TFr w wz))
    case first =>
      cases L
      · have hk1 : k = 1 := by have := of_decide_eq_false HL.out; have := HCAP.out; omega
        obtain ⟨x, hx⟩ : ∃ x, ROW.1 = [x] := List.length_eq_one_iff.1 (HK.out.trans hk1)
        obtain ⟨v, hv⟩ : ∃ v, vs[0]? = some v := ⟨_, List.getElem?_eq_getElem (by have := HVL.out; have := HK.out; omega)⟩
        have HP9 : Hid (PgOk wy G2 v h x none) := ((HVE.out 0 v x hv (by rw [hx]; rfl)).below HBY.out).ext HE12.out
        have HR9 : Hid (RefAt wy r0 0 v) := HAT.out 0 r0 v HR0.out hv
        have HG9 : Hid (G2 r0 = some ⟨h, x⟩) := HK2.out 0 r0 x HR0.out (by rw [hx]; rfl)
        have HX9 : Hid (x8 = ⟨h, x⟩) := HX8.out.symm.trans (upR_one hx)
        clear hk1 hx hv
        go_wp2_with fail
        go_meet
        case rel => exact ⟨r0, v, G2, rfl, by rw [HX9.out]; exact HG9.out, HR9.out, by rw [HX9.out]; exact HP9.out, HW2.out, HE2.out, HT2.out⟩
      · have hk1 : 1 < k := by have := of_decide_eq_true HL.out; omega
        obtain ⟨gi, hgi⟩ : ∃ g, wy.heap.size = g := ⟨_, rfl⟩
        obtain ⟨wi, hwi⟩ : ∃ x, wy.alloc (.cells #[.slice Ak ROW.2.length ca, .slice (some ⟨bk, off, none⟩) k cB] 185) = x := ⟨_, rfl⟩
        obtain ⟨gp, hgp⟩ : ∃ g, wi.heap.size = g := ⟨_, rfl⟩
        obtain ⟨wp, hwp⟩ : ∃ x, wi.alloc (.cells #[.int .i64 0, .iface 180 (.pointer (some ⟨gi, 0, none⟩))] 168) = x := ⟨_, rfl⟩
        have hbi : Below wy.heap.size wy wi := by rw [← hwi]; exact (Below.refl _ _).alloc (Nat.le_refl _) _
        have hbp : Below wi.heap.size wi wp := by rw [← hwp]; exact (Below.refl _ _).alloc (Nat.le_refl _) _
        have hbip := hbi.trans (hbp.mono hbi.size)
        have HBIP := Lib.hid hbip
        have BI : InnerAt wi gi ROW.2 rs := by
          have B0 : Blk wi gi 185 [.slice Ak ROW.2.length ca, .slice (some ⟨bk, off, none⟩) rs.length cB] := by rw [HRL.out, ← hwi, ← hgi]; exact Blk.new wy 185 _
          exact ⟨_, ca, _, cB, B0, HCAP.out.1, by rw [HRL.out]; exact HCB.out, HKA2.out.below hbi, HTB.out.below hbi⟩
        have HX9 : Hid (x8 = ⟨h + 1, ((ROW.2, ROW.1) : List Pl.Key × List (Pl.Tr h))⟩) := HX8.out.symm.trans (upR_many (by have := HK.out; omega))
        have hpi : PgOk wi G2 (innerV gi) (h + 1) ((ROW.2, ROW.1) : List Pl.Key × List (Pl.Tr h)) none := ⟨rs, ⟨gi, rfl, BI⟩, HRL.out.trans HK.out.symm, HK2.out, fun s hs => by cases hs⟩
        have HRP : Hid (RefAt wp gp 0 (innerV gi)) := by rw [Hid, ← hwp, ← hgp]; exact Blk.new wi 168 _
        obtain ⟨i3, e3⟩ := (HW2.out.inv.below hbi).add hpi hbp (Nat.le_of_eq hgp) HRP.out
        have HE3 := Lib.hid e3
        have HPI := Lib.hid ((hpi.below hbp).ext e3)
        have HW3 : Hid (TW E wp rd1 (G2.add gp ⟨h + 1, ((ROW.2, ROW.1) : List Pl.Key × List (Pl.Tr h))⟩)) := ⟨(HW2.out.below hbip).tree, (HW2.out.below hbip).disk, i3, HW2.out.room, ⟨fun k x hk => (Gh.add_low hk).elim (HW2.out.low.g k x) (fun e => by rw [e, ← hgp]; exact Nat.le_trans HW2.out.base hbi.size), HW2.out.low.d, HW2.out.low.t⟩⟩
        clear hbi hbp hbip BI hk1 i3 e3 hpi
        go_wp2_with fail
        go_meet
        case rel => exact ⟨gp, innerV gi, _, rfl, by rw [HX9.out]; exact Gh.add_self _ _ _, HRP.out, by rw [HX9.out]; exact HPI.out, HW3.out, HE2.out.trans HE3.out, HT2.out.below HBIP.out⟩
    case rest =>
      obtain ⟨r8, v8, G3, rfl, HG8, HR8, HP8, HW8, HE8, HT8⟩ := hcut
      obtain ⟨w8, hw8, HR8, HP8, HW8, HT8⟩ : ∃ x, x = wc ∧ Hid (RefAt x r8 0 v8) ∧ Hid (PgOk x G3 v8 x8.1 x8.2 none) ∧ Hid (TW E x rd1 G3) ∧ Hid (TFr w x) := ⟨wc, rfl, HR8, HP8, HW8, HT8⟩
      subst hw8
      clear HX8
      have hm1 : ∀ (b : Nat) (W : World), (Instr.typeAssert (.iface 161 (.pointer (some ⟨b, 0, none⟩))) 166 180 true).run Tryz.prog W = .ok (.tuple #[.pointer none, .bool false]) W := fun b W => by kernel_rfl
      have hm2 : ∀ (b : Nat) (W : World), (Instr.typeAssert (.iface 180 (.pointer (some ⟨b, 0, none⟩))) 166 180 true).run Tryz.prog W = .ok (.tuple #[.pointer (some ⟨b, 0, none⟩), .bool true]) W := fun b W => by kernel_rfl
      obtain ⟨x0, x1, _, _⟩ := facts2 HR8.out
      have c1 := x1
      clear x0 x1
      obtain ⟨h8, t8⟩ := x8
      cases h8 with
      | zero =>
        obtain ⟨b, rfl, _⟩ := HP8.out
        obtain ⟨r9, hr9⟩ : ∃ x, x = r8 := ⟨_, rfl⟩
        subst hr9
        have HG9 : Hid (G3 r9 = some x9) := by rw [Hid, HN8.out]; exact HG8.out
        unfold leafV at c1
        obtain ⟨fr, hfr, hfle, hfc⟩ := fresh_any (HW8.out.below ((Below.refl w8.heap.size w8).drew)).inv x9.1 x9.2 r9 HG9.out HPGS.out
        have HFN : Hid (FrN w8 x9.1 x9.2 r9 fr) := FrN.cells (w := w8.drew) (w' := w8) (fun _ _ _ q => q) (fun _ _ q => q) _ _ _ _ hfr
        have hft := fits_any E.gT E.m r9 fr w8 HW8.out.tree hfc ⟨by have := HPGS.out; omega, by omega, by omega⟩
        obtain ⟨LL, hLL⟩ : ∃ b, decide (fr + E.m.pages + 2 ≤ E.m.n) = b := ⟨_, rfl⟩
        rw [hLL] at hft
        have HLL := Lib.hid hLL
        have HFL := Lib.hid hfle
        unfold refV at hft
        have HFT := Lib.hid hft
        clear hfr hfle hfc hft hLL
        go_wp2_with fail
        refine HFT.out.mono ?_
        rintro e w9 ⟨rfl, hb9⟩
        have HW9 := Lib.hid (HW8.out.below hb9)
        have HT9 := Lib.hid (HT8.out.below hb9)
        have HF9 : Hid (FrN w9 x9.1 x9.2 r9 fr) := HFN.out.only (Only.of_below hb9 (fun _ => False)) (kinds_none w8) (by simp) (by simp)
        clear hb9
        cases LL
        · go_wp2_with fail
          refine (tfail_any 5 _).mono ?_
          rintro e w' ⟨rfl, rfl⟩
          unfold tdied
          go_wp2_with fail
          exact ⟨rfl, .inr (.inl ⟨G3, rd1, fr, rfl, HW9.out, HE8.out, HT9.out.tft, HR1.out, HFL.out, by have := of_decide_eq_false HLL.out; omega, HY1.out⟩)⟩
        · have hfz : w9.frozen? ⟨E.gT, 3, none⟩ = false := (HW9.out.tree).frozen 3
          have hc3 : w9.cell? ⟨E.gT, 3, none⟩ = some (refV E.m.root) := (HW9.out.tree).cell 3
          have hrt := HW9.out.root r9
          unfold refV at hrt hc3
          have HRT := Lib.hid hrt
          clear hrt
          go_wp2_with fail
          go_end0
          refine .inl ⟨G3, rd1, r9, fr, rfl, HRT.out.1, HE8.out, HG9.out, ?_, of_decide_eq_true HLL.out, HT9.out.tft.trans HRT.out.2, HR1.out, HY1.out⟩
          exact HF9.out.only ((Only.refl (· = E.gT) w9).setCell (p := ⟨E.gT, 3, none⟩) (.inl rfl) _) (one_kinds HW9.out.tree) (by decide) (by decide)
      | succ h8 =>
        obtain ⟨rs8, ⟨b8, rfl, A, cp, A', cp', hbb, hc1, hc2, htk, htr⟩, hrl8, hkid8, _⟩ := HP8.out
        obtain ⟨n8, hn8⟩ : ∃ n, rs8.length = n := ⟨_, rfl⟩
        obtain ⟨_, d1, _, _⟩ := facts2 hbb
        dsimp only at hrl8 hkid8 d1
        rw [hn8] at d1
        unfold innerV at c1
        have HN8' := Lib.hid hn8
        have HTR := Lib.hid htr
        have HRL8 := Lib.hid hrl8
        have HKID8 := Lib.hid hkid8
        clear hbb hc1 hc2 htk htr hrl8 hkid8 hn8
        by_cases hn1 : n8 = 1
        · obtain ⟨r9, hr9⟩ : ∃ x, rs8 = [x] := List.length_eq_one_iff.1 (HN8'.out.trans hn1)
          obtain ⟨c, hc⟩ : ∃ x, t8.2 = [x] := List.length_eq_one_iff.1 (HRL8.out.symm.trans (HN8'.out.trans hn1))
          have HG9 : Hid (G3 r9 = some x9) := by rw [Hid, HN8.out, downR_one hc]; exact HKID8.out 0 r9 c (by rw [hr9]; rfl) (by rw [hc]; rfl)
          obtain ⟨bk, off, rfl, g0⟩ := HTR.out.1.at_ 0 _ (refs_at (x := r9) (by rw [hr9]; rfl))
          unfold refV at g0
          rw [Nat.add_zero] at g0
          have q1 : ((n8 : Int) == 1) = true := by subst hn1; rfl
          have q3 : (0 : Int) < (n8 : Int) := by omega
          clear hr9 hc hn1
          obtain ⟨fr, hfr, hfle, hfc⟩ := fresh_any (HW8.out.below ((Below.refl w8.heap.size w8).drew)).inv x9.1 x9.2 r9 HG9.out HPGS.out
          have HFN : Hid (FrN w8 x9.1 x9.2 r9 fr) := FrN.cells (w := w8.drew) (w' := w8) (fun _ _ _ q => q) (fun _ _ q => q) _ _ _ _ hfr
          have hft := fits_any E.gT E.m r9 fr w8 HW8.out.tree hfc ⟨by have := HPGS.out; omega, by omega, by omega⟩
          obtain ⟨LL, hLL⟩ : ∃ b, decide (fr + E.m.pages + 2 ≤ E.m.n) = b := ⟨_, rfl⟩
          rw [hLL] at hft
          have HLL := Lib.hid hLL
          have HFL := Lib.hid hfle
          unfold refV at hft
          have HFT := Lib.hid hft
          clear hfr hfle hfc hft hLL
          go_wp2_with fail
          refine HFT.out.mono ?_
          rintro e w9 ⟨rfl, hb9⟩
          have HW9 := Lib.hid (HW8.out.below hb9)
          have HT9 := Lib.hid (HT8.out.below hb9)
          have HF9 : Hid (FrN w9 x9.1 x9.2 r9 fr) := HFN.out.only (Only.of_below hb9 (fun _ => False)) (kinds_none w8) (by simp) (by simp)
          clear hb9
          cases LL
          · go_wp2_with fail
            refine (tfail_any 5 _).mono ?_
            rintro e w' ⟨rfl, rfl⟩
            unfold tdied
            go_wp2_with fail
            exact ⟨rfl, .inr (.inl ⟨G3, rd1, fr, rfl, HW9.out, HE8.out, HT9.out.tft, HR1.out, HFL.out, by have := of_decide_eq_false HLL.out; omega, HY1.out⟩)⟩
          · have hfz : w9.frozen? ⟨E.gT, 3, none⟩ = false := (HW9.out.tree).frozen 3
            have hc3 : w9.cell? ⟨E.gT, 3, none⟩ = some (refV E.m.root) := (HW9.out.tree).cell 3
            have hrt := HW9.out.root r9
            unfold refV at hrt hc3
            have HRT := Lib.hid hrt
            clear hrt
            go_wp2_with fail
            go_end0
            refine .inl ⟨G3, rd1, r9, fr, rfl, HRT.out.1, HE8.out, HG9.out, ?_, of_decide_eq_true HLL.out, HT9.out.tft.trans HRT.out.2, HR1.out, HY1.out⟩
            exact HF9.out.only ((Only.refl (· = E.gT) w9).setCell (p := ⟨E.gT, 3, none⟩) (.inl rfl) _) (one_kinds HW9.out.tree) (by decide) (by decide)
        · obtain ⟨r9, hr9⟩ : ∃ x, x = r8 := ⟨_, rfl⟩
          subst hr9
          have HG9 : Hid (G3 r9 = some x9) := by
            have hl : t8.2.length ≠ 1 := by rw [← HRL8.out, HN8'.out]; exact hn1
            rw [Hid, HN8.out, show Pl.downR ⟨h8 + 1, t8⟩ = ⟨h8 + 1, t8⟩ from downR_many hl]; exact HG8.out
          have q1 : ((n8 : Int) == 1) = false := beq_eq_false_iff_ne.2 (by omega)
          clear hn1
          obtain ⟨fr, hfr, hfle, hfc⟩ := fresh_any (HW8.out.below ((Below.refl w8.heap.size w8).drew)).inv x9.1 x9.2 r9 HG9.out HPGS.out
          have HFN : Hid (FrN w8 x9.1 x9.2 r9 fr) := FrN.cells (w := w8.drew) (w' := w8) (fun _ _ _ q => q) (fun _ _ q => q) _ _ _ _ hfr
          have hft := fits_any E.gT E.m r9 fr w8 HW8.out.tree hfc ⟨by have := HPGS.out; omega, by omega, by omega⟩
          obtain ⟨LL, hLL⟩ : ∃ b, decide (fr + E.m.pages + 2 ≤ E.m.n) = b := ⟨_, rfl⟩
          rw [hLL] at hft
          have HLL := Lib.hid hLL
          have HFL := Lib.hid hfle
          unfold refV at hft
          have HFT := Lib.hid hft
          clear hfr hfle hfc hft hLL
          go_wp2_with fail
          refine HFT.out.mono ?_
          rintro e w9 ⟨rfl, hb9⟩
          have HW9 := Lib.hid (HW8.out.below hb9)
          have HT9 := Lib.hid (HT8.out.below hb9)
          have HF9 : Hid (FrN w9 x9.1 x9.2 r9 fr) := HFN.out.only (Only.of_below hb9 (fun _ => False)) (kinds_none w8) (by simp) (by simp)
          clear hb9
          cases LL
          · go_wp2_with fail
            refine (tfail_any 5 _).mono ?_
            rintro e w' ⟨rfl, rfl⟩
            unfold tdied
            go_wp2_with fail
            exact ⟨rfl, .inr (.inl ⟨G3, rd1, fr, rfl, HW9.out, HE8.out, HT9.out.tft, HR1.out, HFL.out, by have := of_decide_eq_false HLL.out; omega, HY1.out⟩)⟩
          · have hfz : w9.frozen? ⟨E.gT, 3, none⟩ = false := (HW9.out.tree).frozen 3
            have hc3 : w9.cell? ⟨E.gT, 3, none⟩ = some (refV E.m.root) := (HW9.out.tree).cell 3
            have hrt := HW9.out.root r9
            unfold refV at hrt hc3
            have HRT := Lib.hid hrt
            clear hrt
            go_wp2_with fail
            go_end0
            refine .inl ⟨G3, rd1, r9, fr, rfl, HRT.out.1, HE8.out, HG9.out, ?_, of_decide_eq_true HLL.out, HT9.out.tft.trans HRT.out.2, HR1.out, HY1.out⟩
            exact HF9.out.only ((Only.refl (· = E.gT) w9).setCell (p := ⟨E.gT, 3, none⟩) (.inl rfl) _) (one_kinds HW9.out.tree) (by decide) (by decide)
end Go.Proofs.YtljmklohgpaopaaGreatDoor

namespace Go.Proofs.YtljmklohgpaopaaGreatDoor
open Go.ChangeShapes Go.WideShapes Go.ChangeAt Go.RowKit
set_option linter.unusedVariables false

theorem Tryz.evn : Tryz.prog.globalNamed "daybook/tree.everything" = some 0 := by kernel_rfl
theorem Tryz.evt : (Tryz.prog.globals[0]?).map (·.type) = some 178 := by kernel_rfl
section
variable {H : Type} {enc : TypeId × Value → H} {P : Program} {w : World} {base : Nat} {spare : Nat → Bool} {held : Bool}
theorem trod_lit_str {n : Nat} {t : TypeId} {x : Value} {y : DataW H × List MemPlace} (hu : P.underlying t = some .string) (h : DataW.trod enc P w base spare held n t [x] = some y) : ∃ b : ByteArray, x = .string b ∧ y.1 = .lit (.string b.data.toList) := by
  cases n with
  | zero => simp [DataW.trod] at h
  | succ n =>
    cases x <;> simp [DataW.trod, hu] at h
    obtain ⟨_, rfl⟩ := h
    exact ⟨_, rfl, rfl⟩
theorem trod_lit_bool {n : Nat} {t : TypeId} {x : Value} {y : DataW H × List MemPlace} (hu : P.underlying t = some .bool) (h : DataW.trod enc P w base spare held n t [x] = some y) : ∃ b : Bool, x = .bool b ∧ y.1 = .lit (.bool b) := by
  cases n with
  | zero => simp [DataW.trod] at h
  | succ n =>
    cases x <;> simp [DataW.trod, hu] at h
    subst h
    exact ⟨_, rfl, rfl⟩
end
theorem three_of {l : List Value} (h : l.length = 3) : ∃ a b c, l = [a, b, c] := by
  match l, h with
  | [a, b, c], _ => exact ⟨a, b, c, rfl⟩
set_option maxRecDepth 100000 in
theorem ev_of_met {W : World} (h : laidMet Tryz.prog [("daybook/tree.everything", Rows.laid_daybook_tree_everything)] W) : EvAt W := by
  obtain ⟨ps, ⟨g, t, cs, fuel, p, q, e1, e2, e3, e4, _, _⟩, _, _⟩ := h
  obtain rfl : 0 = g := Option.some.inj (Tryz.evn.symm.trans e1)
  obtain rfl : 178 = t := Option.some.inj (Tryz.evt.symm.trans e2)
  obtain ⟨y0, y1, y2, n, hx, hl, h0, h1, h2⟩ := Deep.trod_struct3 Tryz.underlying178 e4
  have hs : Tryz.prog.cellsOf 9 = 1 := by kernel_rfl
  have hb : Tryz.prog.cellsOf 4 = 1 := by kernel_rfl
  have h3 : Tryz.prog.cellsOf 178 = 3 := by kernel_rfl
  rw [h3] at hl
  have hc := World.var?_cell Tryz.evn e3
  obtain ⟨l, hls⟩ : ∃ l, cs.toList = l := ⟨_, rfl⟩
  have hcs : cs = l.toArray := by rw [← hls]
  rw [hls] at hl h0 h1 h2
  obtain ⟨a, b, c, rfl⟩ := three_of hl
  dsimp only at h0 h1 h2
  rw [hs] at h0 h1
  rw [hb] at h2
  obtain ⟨x0, rfl, z0⟩ := trod_lit_str Tryz.underlying9 (show DataW.trod _ _ _ _ _ _ _ 9 [a] = some y0 from h0)
  obtain ⟨x1, rfl, z1⟩ := trod_lit_str Tryz.underlying9 (show DataW.trod _ _ _ _ _ _ _ 9 [b] = some y1 from h1)
  obtain ⟨x2, rfl, z2⟩ := trod_lit_bool Tryz.underlying4 (show DataW.trod _ _ _ _ _ _ _ 4 [c] = some y2 from h2)
  injection hx with hx _
  unfold Rows.laid_daybook_tree_everything at hx
  rw [z0, z1, z2] at hx
  injection hx with hx
  simp only [List.cons.injEq, DataW.lit.injEq, Lit.string.injEq, Lit.bool.injEq, and_true] at hx
  obtain ⟨k0, k1, k2⟩ := hx
  have f : ∀ x : ByteArray, [] = x.data.toList → x = tstr [] := fun x hx => by
    obtain ⟨⟨l⟩⟩ := x
    have : l = [] := hx.symm
    subst this
    rfl
  rw [hcs, f x0 k0, f x1 k1, ← k2] at hc
  exact ⟨(hc 0).trans rfl, (hc 1).trans rfl, (hc 2).trans rfl⟩
theorem both_of_laid {W : World} (h : laidMetH Tryz.prog [("errors.errorType", Rows.laid_errors_errorType), ("daybook/tree.everything", Rows.laid_daybook_tree_everything)] W) : GE W ∧ EvAt W := by
  have h' : laidMet Tryz.prog [("daybook/tree.everything", Rows.laid_daybook_tree_everything)] W ∧ handlesMet Tryz.prog [("errors.errorType", Rows.laid_errors_errorType)] W := h
  exact ⟨ge_of_handles h'.2 (List.mem_singleton.2 rfl), ev_of_met h'.1⟩
/-- A world that meets both conditions. -/
noncomputable def laidWorld2 (os : Os) : World :=
  let w0 := laidWorld os
  { w0 with heap := w0.heap.modify 0 fun
      | .cells _ t frozen => .cells #[.string ⟨#[]⟩, .string ⟨#[]⟩, .bool true] t frozen
      | o => o }
theorem laidWorld2_met (os : Os) (args : Array Value) : laidMetH Tryz.prog [("errors.errorType", Rows.laid_errors_errorType), ("daybook/tree.everything", Rows.laid_daybook_tree_everything)] ((laidWorld2 os).forCall (fun _ _ => 0) ⟨#[], args, []⟩).memory :=
  laidMetH_of_parts (laidMet_of_run (l := [("daybook/tree.everything", Rows.laid_daybook_tree_everything)]) (ps := [.cell 0 0, .cell 0 1, .cell 0 2]) 8 (by kernel_rfl) (by kernel_rfl) (by kernel_rfl)) (by kernel_rfl)
end Go.Proofs.YtljmklohgpaopaaGreatDoor
