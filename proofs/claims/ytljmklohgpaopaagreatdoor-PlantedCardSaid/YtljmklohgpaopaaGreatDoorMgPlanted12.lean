/- A tree's pages: page. A tree's pages: leaves. -/
import Derived.Test.YtljmklohgpaopaaGreatDoorMgPlanted11
import Derived.Deep.CutBlock
import Derived.Deep.CutRange
set_option linter.unusedVariables false
set_option linter.unusedSimpArgs false

namespace Go.Proofs.YtljmklohgpaopaaGreatDoor
open Go.RowKit
set_option linter.unusedSectionVars false
variable [Inhabited LoT]

set_option maxRecDepth 100000 in
set_option maxHeartbeats 2000000 in
theorem page_any (E : TEnv) (r h deep : Nat) (t : Pl.Tr h) (lo : Pl.Key) (hi : Option Pl.Key) (w : World) (rd : Int) (G : Gh) (hw : TW E w rd G) (hG : G r = some ⟨h, t⟩) (hf : Pl.PFit (decide (deep = 0)) h t) (hs : Pl.Spn h lo hi t) (hd : deep ≤ 64) (hn : E.m.n ≤ 4096) :
    Calls Tryz.prog 95 #[.pointer (some ⟨E.gT, 0, none⟩), refV r, spanV lo hi, .int .i64 (deep : Nat)] w (RPost E 1 rd G (fun w' G' v => PgOk w' G' v h t none ∧ ∃ a, RefAt w' r a v) w) := by
  have HRT := Lib.hid (fun (s : Pl.ST h) (v : Value) (lo0 : Nat) (W : World) (hp : Parsed lo0 v W h t s) (hD : Pl.OnD E.D E.m.n h s t) => right_any E.D E.m.n h lo0 t s v lo hi (decide (deep = 0)) W hp hD hf hs)
  obtain ⟨sl, hsl⟩ : ∃ s, tstr lo = s := ⟨_, rfl⟩
  obtain ⟨sh, hsh⟩ : ∃ s, tstr (hi.getD []) = s := ⟨_, rfl⟩
  obtain ⟨bn, hbn⟩ : ∃ b, hi.isNone = b := ⟨_, rfl⟩
  unfold spanV at HRT ⊢
  rw [hsl, hsh, hbn] at HRT ⊢
  obtain ⟨w0, hw0⟩ : ∃ w1, w.alloc (.cells #[.string sl, .string sh, .bool bn] 178) = w1 := ⟨_, rfl⟩
  have hb0 : Below w.heap.size w w0 := by rw [← hw0]; exact (Below.refl _ _).alloc (Nat.le_refl _) _
  have B0 : Blk w0 w.heap.size 178 [.string sl, .string sh, .bool bn] := by rw [← hw0]; exact Blk.new w 178 _
  have hW0 := hw.below hb0
  obtain ⟨g6, hg6⟩ : ∃ g, w.heap.size = g := ⟨_, rfl⟩
  rw [hg6] at B0
  have HG6 := Lib.hid hg6
  have HB := Lib.hid hb0
  have HW := Lib.hid hW0
  have HGG := Lib.hid hG
  have HS0 := Lib.hid B0
  clear hw hb0 hsl hsh hbn hs
  rcases hW0.inv r h t hG with hr | hr
  · obtain ⟨v, h1, h2⟩ := hr
    obtain ⟨T, b, rfl⟩ := h2.form h t none
    obtain ⟨c0, c1, _, _⟩ := facts2 h1
    have H1 := Lib.hid h1
    have H2 := Lib.hid h2
    clear h1 h2 hW0 hG B0 HRT HS0
    unfold refV
    go_enter Tryz.func95, Tryz.ntmps95
    go_wp2_with fail
    go_ret
    have hbb : Below w.heap.size w w0 := HB.out
    first
      | exact .inl ⟨_, G, rd, rfl, HW.out, Ext.refl G, TFr.of_below hbb, RdK.refl 1 rd, H2.out, _, H1.out⟩
      | (rw [hw0]; exact .inl ⟨_, G, rd, rfl, HW.out, Ext.refl G, TFr.of_below hbb, RdK.refl 1 rd, H2.out, _, H1.out⟩)
  · obtain ⟨s, v, h1, hD, hS, h2⟩ := hr
    rcases h2 with rfl | h2
    · obtain ⟨c0, c1, f0, f1⟩ := facts2 h1
      have hbd := hD.bounds
      have HSE := Lib.hid (tsector_any E.gT E.m E.vD E.d rd (Pl.top h s) w0 hW0.tree hW0.disk (by have := hW0.room; omega))
      have HTX : Hid (E.d.look (E.m.first + Pl.top h s) = some (Pl.padded (Pl.pgText h t s))) := hD.text
      have HPA := Lib.hid (fun W => parse_any E.D E.m.n h t s W hD hf.root hn)
      obtain ⟨a, ha⟩ : ∃ a, Pl.top h s = a := ⟨_, rfl⟩
      have HA := Lib.hid ha
      rw [ha] at HSE HTX c0
      have HR := Lib.hid h1
      have HD := Lib.hid hD
      have HS := Lib.hid hS
      obtain ⟨tx, htx⟩ : ∃ x, Pl.padded (Pl.pgText h t s) = x := ⟨_, rfl⟩
      rw [htx] at HTX HPA
      have q0 : ¬ (64 : Int) < (deep : Int) := by omega
      have q1 : decide ((64 : Int) < (deep : Int)) = false := decide_eq_false q0
      have q2 : ((deep : Int) == 0) = decide (deep = 0) := by
        by_cases h0 : deep = 0
        · subst h0; rfl
        · rw [decide_eq_false h0, beq_eq_false_iff_ne]; omega
      have HF := Lib.hid hf
      clear h1 hD hS hW0 hG B0 ha htx hbd hf
      unfold refV
      go_enter Tryz.func95, Tryz.ntmps95
      go_wp2_with fail
      refine HSE.out.mono ?_
      rintro e w1 ⟨⟨hal, rfl⟩ | ⟨hal, rfl⟩, ⟨rd', hd1, hrd⟩, ho⟩
      · have HAL := Lib.hid hal
        have HD1 := Lib.hid hd1
        have HO := Lib.hid ho
        clear hal hd1 ho hrd
        unfold tdied
        go_wp2_with fail
        refine ⟨rfl, .inr ⟨HAL.out, rfl, ⟨rd', HD1.out⟩, ?_⟩⟩
        exact (TFr.of_below HB.out).trans (TFr.of_disk HW.out.disk (HW.out.low.d _ (.inl rfl)) HO.out)
      · rw [HTX.out]
        simp only [Option.getD_some, Option.isSome_some]
        have htf := TFr.of_disk HW.out.disk (HW.out.low.d _ (.inl rfl)) ho
        have hne : r ≠ E.m.g := by
          obtain ⟨wr, sy, hgb⟩ := HW.out.disk.blk
          exact HR.out.ne hgb (by decide)
        have HW1 : Hid (TW E w1 rd' G) := ⟨htf.blk HW.out.tree (by decide) (by decide), hd1, HW.out.inv.only ho (fun k hk => by
          obtain ⟨wr, sy, hgb⟩ := HW.out.disk.blk
          exact ⟨102, List.mem_singleton.2 rfl, hk ▸ hgb.typ⟩) (by decide) (by decide), HW.out.room, HW.out.low⟩
        have HR1 := Lib.hid (ho.blk HR.out hne)
        have HS1 := Lib.hid (htf.blk HS0.out (by decide) (by decide))
        have HTF := Lib.hid htf
        have HRD := Lib.hid hrd
        clear htf hal hd1 hrd ho hne
        go_wp2_with fail
        refine (HPA.out _).mono ?_
        rintro e w2 ⟨v, rfl, hpv, hb2⟩
        obtain ⟨T, b, rfl⟩ := hpv.form h t s
        have HPV := Lib.hid hpv
        have HB2 := Lib.hid hb2
        have HR2 := Lib.hid (HR1.out.below hb2 HR1.out.lt)
        have HT2 := Lib.hid (HW1.out.tree.below hb2 HW1.out.tree.lt)
        have HS2 := Lib.hid (HS1.out.below hb2 HS1.out.lt)
        clear hpv hb2
        obtain ⟨e0, e1, e2, _, _, _⟩ := facts3' HS2.out
        obtain ⟨t0, t1, t2, t3, t4, t5, t6, t7, tf⟩ := facts8 HT2.out
        have S0 := Lib.hid (And.intro e0 (And.intro e1 (And.intro e2 t2)))
        clear t0 t1 t3 t4 t5 t6 t7 tf
        go_wp2_with fail
        go_region_held3 (fun W : World => W.cell? ⟨g6, 0, none⟩ = some (.string sl) ∧ W.cell? ⟨g6, 1, none⟩ = some (.string sh) ∧ W.cell? ⟨g6, 2, none⟩ = some (.bool bn) ∧ W.cell? ⟨E.gT, 2, none⟩ = some (.int .i64 (E.m.n : Nat))) (first | exact S0.out | exact S1.out) (first
          | (go_at_call 136
             (try rw [q2])
             refine (HRT.out s _ _ _ (HPV.out.below ((Below.refl _ _).drew) h t s) HD.out).mono ?_
             rintro e w3 ⟨rfl, hb3'⟩
             have hb3 : Below w2.heap.size w2 w3 := undrew hb3'
             have HB3 := Lib.hid hb3
             have b1 := HS2.out.below hb3 HS2.out.lt
             have b2 := HT2.out.below hb3 HT2.out.lt
             have S1 := Lib.hid (And.intro (b1.cell 0) (And.intro (b1.cell 1) (And.intro (b1.cell 2) (b2.cell 2))))
             clear hb3 hb3' b1 b2)
          | fail)
        have HR3 := Lib.hid (HR2.out.below HB3.out HR2.out.lt)
        obtain ⟨c0, c1, f0, f1⟩ := facts2 HR3.out
        obtain ⟨k0, k1⟩ := facts2 (setRef HR3.out (Value.iface T (.pointer (some ⟨b, 0, none⟩))) (HW.out.low.g _ _ HGG.out)).1
        go_wp2_with fail
        go_ret
        obtain ⟨G', r1, r2, r3, r4, r5⟩ := HW1.out.read (HB2.out.trans (HB3.out.mono HB2.out.size)) (by exact HR1.out) HGG.out HD.out HS.out rfl (HPV.out.below HB3.out h t s)
        exact .inl ⟨_, G', rd', rfl, r1, r2, ((TFr.of_below HB.out).trans HTF.out).trans r3, fun h1 h2 => HRD.out h1 (by omega), r4, _, r5⟩
    · clear HRT HS0 B0
      obtain ⟨T, b, rfl⟩ := h2.form h t _
      obtain ⟨c0, c1, _, _⟩ := facts2 h1
      have H1 := Lib.hid h1
      have H2 := Lib.hid h2
      clear h1 h2 hD hS hW0 hG
      unfold refV
      go_enter Tryz.func95, Tryz.ntmps95
      go_wp2_with fail
      go_ret
      have hbb : Below w.heap.size w w0 := HB.out
      first
        | exact .inl ⟨_, G, rd, rfl, HW.out, Ext.refl G, TFr.of_below hbb, RdK.refl 1 rd, H2.out.bare h t _, _, H1.out⟩
        | (rw [hw0]; exact .inl ⟨_, G, rd, rfl, HW.out, Ext.refl G, TFr.of_below hbb, RdK.refl 1 rd, H2.out.bare h t _, _, H1.out⟩)
end Go.Proofs.YtljmklohgpaopaaGreatDoor

namespace Go.Proofs.YtljmklohgpaopaaGreatDoor
open Go.RowKit
set_option linter.unusedSectionVars false
variable [Inhabited LoT]

/-- Pages side by side, and the keys between them, in memory. -/
def RowAt (w : World) (G : Gh) (h : Nat) (rv : Value) (r : Pl.Row h) : Prop :=
  ∃ A ca B cb vs, rv = .agg #[.slice A r.2.length ca, .slice B r.1.length cb] ∧ r.2.length ≤ ca ∧ r.1.length ≤ cb ∧ TSrc w A (ksCells r.2) 9 ∧ TSrc w B vs 166 ∧ vs.length = r.1.length ∧
    ∀ (i : Nat) (v : Value) (t : Pl.Tr h), vs[i]? = some v → r.1[i]? = some t → PgOk w G v h t none
/-- A row under way: its block, its lists. -/
def LvAt (B : Nat) (w : World) (gr : Nat) (P : List (List Pl.Pr)) (K : List Pl.Key) : Prop :=
  ∃ vk vp vs, Blk w gr 242 [vk, vp] ∧ Rw 9 1 w B vk K.length (ksCells K) ∧ Rw 166 1 w B vp P.length vs ∧ vs.length = P.length ∧
    ∀ (i : Nat) (v : Value) (p : List Pl.Pr), vs[i]? = some v → P[i]? = some p → ∃ b, v = leafV b ∧ LeafAt w b p
theorem LvAt.below {B : Nat} {w w' : World} {gr : Nat} {P : List (List Pl.Pr)} {K : List Pl.Key} (h : LvAt B w gr P K) (hb : Below w.heap.size w w') : LvAt B w' gr P K := by
  obtain ⟨vk, vp, vs, h1, h2, h3, h4, h5⟩ := h
  exact ⟨vk, vp, vs, h1.below hb h1.lt, h2.below hb, h3.below hb, h4, fun i v p hv hp => by obtain ⟨b, e, h6⟩ := h5 i v p hv hp; exact ⟨b, e, h6.below hb⟩⟩
/-- The same, its lists told. -/
structure LvP (B : Nat) (w : World) (gr : Nat) (vk vp : Value) (P : List (List Pl.Pr)) (K : List Pl.Key) (vs : List Value) : Prop where
  blk : Blk w gr 242 [vk, vp]
  keys : Rw 9 1 w B vk K.length (ksCells K)
  pages : Rw 166 1 w B vp P.length vs
  len : vs.length = P.length
  each : ∀ (i : Nat) (v : Value) (p : List Pl.Pr), vs[i]? = some v → P[i]? = some p → ∃ b, v = leafV b ∧ LeafAt w b p
theorem LvAt.told {B : Nat} {w : World} {gr : Nat} {P : List (List Pl.Pr)} {K : List Pl.Key} (h : LvAt B w gr P K) : ∃ vk vp vs, LvP B w gr vk vp P K vs := by
  obtain ⟨vk, vp, vs, h1, h2, h3, h4, h5⟩ := h
  exact ⟨vk, vp, vs, h1, h2, h3, h4, h5⟩
section
variable {B : Nat} {w w' : World} {gr : Nat} {vk vp v : Value} {P : List (List Pl.Pr)} {K : List Pl.Key} {vs : List Value}
theorem LvP.at_ (h : LvP B w gr vk vp P K vs) : LvAt B w gr P K := ⟨vk, vp, vs, h.blk, h.keys, h.pages, h.len, h.each⟩
theorem LvP.below (h : LvP B w gr vk vp P K vs) (hb : Below w.heap.size w w') : LvP B w' gr vk vp P K vs :=
  ⟨h.blk.below hb h.blk.lt, h.keys.below hb, h.pages.below hb, h.len, fun i v p hv hp => by obtain ⟨b, e, h1⟩ := h.each i v p hv hp; exact ⟨b, e, h1.below hb⟩⟩
theorem Rw.kinds' {e : TypeId} {s : Nat} {w : World} {base : Nat} {v : Value} {n : Nat} {cs : List Value} (h : Rw e s w base v n cs) : Kinds (fun k => v.ownBlock = some k) w [e] := fun _ hk => ⟨e, by simp, own_typ h hk⟩
theorem LvP.page (h : LvP B w gr vk vp P K vs) {gl : Nat} {now : List Pl.Pr} (hl : LeafAt w gl now) (hm : Mv w w' vp v) (hr : Rw 166 1 w' B v (P.length + 1) (vs ++ [leafV gl])) : LvP B (w'.setCell ⟨gr, 1, none⟩ v) gr vk v (P ++ [now]) K (vs ++ [leafV gl]) := by
  have hk := h.pages.kinds'
  have ho := hm.only
  have hb := ho.blk_ hk h.blk (by decide)
  have ho2 : Only (· = gr) w' (w'.setCell ⟨gr, 1, none⟩ v) := (Only.refl (· = gr) w').setCell (p := ⟨gr, 1, none⟩) (.inl rfl) v
  have hk2 := one_kinds hb
  have lf : ∀ b (p : List Pl.Pr), LeafAt w b p → LeafAt (w'.setCell ⟨gr, 1, none⟩ v) b p := fun b p hp => (hp.only ho hk (by decide) (by decide)).only ho2 hk2 (by decide) (by decide)
  refine ⟨hb.set_ 1 v, (h.keys.only_ ho hk (by decide)).only_ ho2 hk2 (by decide), by rw [List.length_append, List.length_singleton]; exact hr.only_ ho2 hk2 (by decide), by rw [List.length_append, List.length_append, h.len]; rfl, fun i u p hu hp => ?_⟩
  rcases Nat.lt_or_ge i P.length with hi | hi
  · rw [List.getElem?_append_left (by have := h.len; omega)] at hu
    rw [List.getElem?_append_left hi] at hp
    obtain ⟨b, e, h1⟩ := h.each i u p hu hp
    exact ⟨b, e, lf _ _ h1⟩
  · rw [List.getElem?_append_right hi] at hp
    rw [List.getElem?_append_right (by have := h.len; omega)] at hu
    have hi0 : i = P.length := by
      rcases Nat.lt_or_ge (i - P.length) 1 with h4 | h4
      · omega
      · rw [List.getElem?_eq_none (by simpa using h4)] at hp; cases hp
    subst hi0
    rw [h.len, Nat.sub_self] at hu
    rw [Nat.sub_self] at hp
    obtain rfl : leafV gl = u := by simpa using hu
    obtain rfl : now = p := by simpa using hp
    exact ⟨gl, rfl, lf _ _ hl⟩
theorem LvP.key (h : LvP B w gr vk vp P K vs) {k : Pl.Key} (hm : Mv w w' vk v) (hr : Rw 9 1 w' B v (K.length + 1) (ksCells K ++ ksCells [k])) : LvP B (w'.setCell ⟨gr, 0, none⟩ v) gr v vp P (K ++ [k]) vs := by
  have hk := h.keys.kinds'
  have ho := hm.only
  have hb := ho.blk_ hk h.blk (by decide)
  have ho2 : Only (· = gr) w' (w'.setCell ⟨gr, 0, none⟩ v) := (Only.refl (· = gr) w').setCell (p := ⟨gr, 0, none⟩) (.inl rfl) v
  have hk2 := one_kinds hb
  have e : ksCells (K ++ [k]) = ksCells K ++ ksCells [k] := by unfold ksCells; rw [List.map_append]
  refine ⟨hb.set_ 0 v, by rw [List.length_append, List.length_singleton, e]; exact hr.only_ ho2 hk2 (by decide), (h.pages.only_ ho hk (by decide)).only_ ho2 hk2 (by decide), h.len, fun i u p hu hp => ?_⟩
  obtain ⟨b, e, h1⟩ := h.each i u p hu hp
  exact ⟨b, e, (h1.only ho hk (by decide) (by decide)).only ho2 hk2 (by decide) (by decide)⟩
end
theorem PgOk.only {F : Nat → Prop} {w w' : World} {G : Gh} {v : Value} {ts : List TypeId} (ho : Only F w w') (hF : Kinds F w ts) (h2 : ∀ t ∈ pageTypes, t ∉ ts) : {h : Nat} → {t : Pl.Tr h} → PgOk w G v h t none → PgOk w' G v h t none
  | 0, t, h => PgAt.only (pg := .leaf t) h ho hF h2
  | _ + 1, _, ⟨rs, g1, g2, g3, _⟩ => ⟨rs, g1.only ho hF h2, g2, g3, fun s hs => by cases hs⟩
theorem RowAt.only {F : Nat → Prop} {w w' : World} {G : Gh} {h : Nat} {rv : Value} {r : Pl.Row h} {ts : List TypeId} (hr : RowAt w G h rv r) (ho : Only F w w') (hF : Kinds F w ts) (h1 : 166 ∉ ts) (h2 : ∀ t ∈ pageTypes, t ∉ ts) : RowAt w' G h rv r := by
  obtain ⟨A, ca, B, cb, vs, e, k1, k2, k3, k4, k5, k6⟩ := hr
  exact ⟨A, ca, B, cb, vs, e, k1, k2, k3.only ho hF (h2 _ (by decide)), k4.only ho hF h1, k5, fun i v t hv ht => (k6 i v t hv ht).only ho hF h2⟩
theorem RowAt.below {w w' : World} {G : Gh} {h : Nat} {rv : Value} {r : Pl.Row h} (hr : RowAt w G h rv r) (hb : Below w.heap.size w w') : RowAt w' G h rv r := hr.only (Only.of_below hb (fun _ => False)) (kinds_none w) (by simp) (by simp)
theorem LvP.row {B : Nat} {w : World} {gr : Nat} {vk vp : Value} {P : List (List Pl.Pr)} {K : List Pl.Key} {vs : List Value} (h : LvP B w gr vk vp P K vs) (G : Gh) : RowAt w G 0 (.agg #[vk, vp]) ((P, K) : Pl.Row 0) := by
  obtain ⟨A, ca, e1, h1, h2, _⟩ := h.keys.tsrc
  obtain ⟨A', ca', e2, h3, h4, _⟩ := h.pages.tsrc
  exact ⟨A, ca, A', ca', vs, by rw [e1, e2]; rfl, h1, h3, h2, h4, h.len, fun i v t hv ht => h.each i v t hv ht⟩
theorem results_row {fn : Func} {t : Tmp} {tmps : Array Value} {w : World} {g : Nat} {a b : Value} (h : fn.results = #[.cell t 242]) (ht : tmps.getD t undef = .pointer (some ⟨g, 0, none⟩)) (hB : Blk w g 242 [a, b]) :
    (results fn tmps).run Tryz.prog w = .ok (.agg #[a, b]) w := by
  have c0 := hB.cell 0
  have c1 := hB.cell 1
  simp only [List.getElem?_cons_succ, List.getElem?_cons_zero] at c0 c1
  simp only [Array.getD_eq_getD_getElem?] at ht
  simp [results, h, ht, go_sem, c0, c1, asAddr]
theorem pwt_drop {ps : List Pl.Pr} {k : Nat} {p : Pl.Pr} (h : ps[k]? = some p) : Pl.pwt (ps.drop k) = Pl.psz p + Pl.pwt (ps.drop (k + 1)) := by
  obtain ⟨hlt, rfl⟩ := List.getElem?_eq_some_iff.1 h
  unfold Pl.pwt
  rw [List.drop_eq_getElem_cons hlt, List.map_cons, List.sum_cons]
theorem lv_step {all k size : Nat} {ps now : List Pl.Pr} {p : Pl.Pr} (h : ps[k]? = some p) :
    Pl.lv all (ps.drop k) now size = if (256 < size + Pl.psz p ∨ (256 < all ∧ all / 2 ≤ size)) ∧ now ≠ [] then (now :: (Pl.lv all (ps.drop (k + 1)) [p] (3 + Pl.psz p)).1, p.key :: (Pl.lv all (ps.drop (k + 1)) [p] (3 + Pl.psz p)).2)
      else Pl.lv all (ps.drop (k + 1)) (now ++ [p]) (size + Pl.psz p) := by
  obtain ⟨hlt, rfl⟩ := List.getElem?_eq_some_iff.1 h
  rw [List.drop_eq_getElem_cons hlt, Pl.lv]
set_option maxRecDepth 100000 in
set_option maxHeartbeats 4000000 in
theorem leaves_any (A : Option Addr) (cap : Nat) (ps : List Pl.Pr) (w : World) (hs : TSrc w A (prsCells ps) 175) (hsz : Pl.lsz ps ≤ 1000) (G : Gh) :
    Calls Tryz.prog 159 #[.slice A ps.length cap] w fun e w' => ∃ rv, e = .returned rv ∧ RowAt w' G 0 rv (Pl.leafRow ps) ∧ Below w.heap.size w w' := by
  obtain ⟨n, hn⟩ : ∃ n, ps.length = n := ⟨_, rfl⟩
  have hlen := len_le_lsz ps
  have h500 : n ≤ 500 := by omega
  obtain ⟨w1, hw1⟩ : ∃ w1, w.alloc (.cells #[.slice none 0 0, .slice none 0 0] 242) = w1 := ⟨_, rfl⟩
  have hb1 : Below w.heap.size w w1 := by rw [← hw1]; exact (Below.refl _ _).alloc (Nat.le_refl _) _
  have B1 : Blk w1 w.heap.size 242 [.slice none 0 0, .slice none 0 0] := by rw [← hw1]; exact Blk.new w 242 _
  obtain ⟨gx, hgx⟩ : ∃ g, w.heap.size = g := ⟨_, rfl⟩
  rw [hgx] at B1
  have HGX := Lib.hid hgx
  have HN := Lib.hid hn
  have HS := Lib.hid (hs.below hb1)
  have HSZ := Lib.hid hsz
  have HB1 := Lib.hid hb1
  have HX := Lib.hid B1
  rw [hn]
  clear hs hn hlen hsz hb1 B1
  go_enter Tryz.func159, Tryz.ntmps159
  go_wp2_with fail
  go_loopw [3, 14] (fun t i wr => ∃ k : Nat, k ≤ n ∧ i = .int .i64 (k : Int) ∧ t = .int .i64 (Pl.lsz (ps.take k) : Nat) ∧ Hid (Below w1.heap.size w1 wr)) (fun _ i _ => n - (intOf i).toNat)
  case atStart => exact ⟨0, Nat.zero_le _, rfl, rfl, Below.refl _ _⟩
  case round =>
    obtain ⟨k, hk, rfl, rfl, HBE⟩ := hrel
    by_cases hkn : k < n
    · have q1 : (k : Int) < (n : Int) := by omega
      obtain ⟨p, hp⟩ : ∃ p, ps[k]? = some p := ⟨_, List.getElem?_eq_getElem (by rw [HN.out]; exact hkn)⟩
      have hpm := List.mem_of_getElem? hp
      have at_ := flat_at (f := prCells) (s := 2) (fun _ => rfl) ps k p hp
      have hsr := HS.out.below HBE.out
      obtain ⟨b2, off, rfl, g0⟩ := hsr.1.at_ _ _ (at_ 0 (by omega))
      have g1 := hsr.1.cell _ _ (at_ 1 (by omega))
      rw [← Nat.add_assoc] at g1
      rw [Nat.add_zero] at g0
      have hsz2 : Hid (Pl.lsz (ps.take (k + 1)) = Pl.lsz (ps.take k) + Pl.psz p) := prs_take_size hp
      have hle := lsz_take_le ps (k + 1)
      have hp1 := psz_le_lsz hpm
      obtain ⟨t, ht⟩ : ∃ t, Pl.lsz (ps.take k) = t := ⟨_, rfl⟩
      obtain ⟨m, hm⟩ : ∃ m, Pl.psz p = m := ⟨_, rfl⟩
      have hbd : t + m ≤ 1000 := by have := hsz2.out; have := HSZ.out; omega
      have HP := Lib.hid (fun W => psize_any p W (by have := HSZ.out; omega))
      rw [ht]
      rw [hm] at HP
      have HT := Lib.hid ht
      have HM := Lib.hid hm
      clear at_ hsr hle hp1 hpm hp ht hm
      obtain ⟨b5, hb5⟩ : ∃ b5, wr.heap.size = b5 := ⟨_, rfl⟩
      obtain ⟨wb, hwb⟩ : ∃ wb, wr.alloc (.cells #[.string (tstr p.key), .string (tstr p.val)] 175) = wb := ⟨_, rfl⟩
      have BB : Blk wb b5 175 [.string (tstr p.key), .string (tstr p.val)] := by rw [← hwb, ← hb5]; exact Blk.new wr 175 _
      have hbb : Below wr.heap.size wr wb := by rw [← hwb]; exact (Below.refl _ _).alloc (Nat.le_refl _) _
      have HBB := Lib.hid (HBE.out.trans (hbb.mono HBE.out.size))
      obtain ⟨e0, e1, _, _⟩ := facts2 BB
      clear BB hbb
      go_wp2_with fail
      refine (HP.out _).mono ?_
      rintro e w3 ⟨rfl, hb3⟩
      have HB3 := Lib.hid (HBB.out.trans (hb3.mono HBB.out.size))
      clear hb3 g0 g1
      go_wp2_with fail
      go_round
      case rel => exact ⟨k + 1, by omega, by simp, by rw [hsz2.out, HT.out, HM.out]; simp, HB3⟩
      case measure => simp [intOf]; omega
    · obtain rfl : k = n := by omega
      obtain ⟨wA, hwA⟩ : ∃ x, x = wr := ⟨_, rfl⟩
      subst hwA
      have e9 := List.take_length (l := ps)
      rw [HN.out] at e9
      rw [e9]
      obtain ⟨all, hall⟩ : ∃ a, Pl.lsz ps = a := ⟨_, rfl⟩
      have HALL := Lib.hid hall
      rw [hall]
      have h1000 : all ≤ 1000 := by rw [← hall]; exact HSZ.out
      clear e9 hall
      obtain ⟨gr, hgr⟩ : ∃ g, wA.heap.size = g := ⟨_, rfl⟩
      obtain ⟨w2, hw2⟩ : ∃ w2, wA.alloc (.cells #[.slice none 0 0, .slice none 0 0] 242) = w2 := ⟨_, rfl⟩
      have B2 : Blk w2 gr 242 [.slice none 0 0, .slice none 0 0] := by rw [← hw2, ← hgr]; exact Blk.new wA 242 _
      have hb2 : Below wA.heap.size wA w2 := by rw [← hw2]; exact (Below.refl _ _).alloc (Nat.le_refl _) _
      have HB2 := Lib.hid (HB1.out.trans ((HBE.out.trans (hb2.mono HBE.out.size)).mono HB1.out.size))
      have HB12 := Lib.hid (HBE.out.trans (hb2.mono HBE.out.size))
      have HS2 := Lib.hid (HS.out.below HBE.out)
      have HX2 := Lib.hid (HX.out.below HBE.out HX.out.lt)
      have HBA := Lib.hid (HB1.out.trans (HBE.out.mono HB1.out.size))
      have HA2 := Lib.hid hb2
      have HL0 : Hid (LvAt wA.heap.size w2 gr [] []) := ⟨_, _, [], B2, Rw.nil _ _, Rw.nil _ _, rfl, fun i v p h _ => by simp at h⟩
      have hgrlt : Hid (gx < gr) := by have := HX.out.lt; have := HBE.out.size; rw [Hid]; omega
      clear B2 hb2
      go_wp2_with fail
      go_loopw [7, 8, 25] (fun nv sz i wr => ∃ (k' size : Nat) (now : List Pl.Pr) (P : List (List Pl.Pr)) (K : List Pl.Key) (wB : World), k' ≤ k ∧ i = .int .i64 (k' : Int) ∧ sz = .int .i64 (size : Nat) ∧ Hid (3 ≤ size ∧ size + Pl.pwt (ps.drop k') ≤ 1000) ∧
        Hid ((P ++ (Pl.lv all (ps.drop k') now size).1, K ++ (Pl.lv all (ps.drop k') now size).2) = Pl.leavesOf ps) ∧ Hid (P.length + now.length ≤ k' ∧ K.length = P.length) ∧ Hid (Rw 175 2 wr wB.heap.size nv now.length (prsCells now)) ∧ Hid (LvAt wA.heap.size wB gr P K) ∧ Hid (Below wA.heap.size wA wB) ∧ Hid (Below wB.heap.size wB wr)) (fun _ _ i _ => k - (intOf i).toNat)
      case atStart =>
        refine ⟨0, 3, [], [], [], w2, Nat.zero_le _, rfl, rfl, ⟨Nat.le_refl _, ?_⟩, ?_, ⟨by simp, by simp⟩, Rw.nil _ _, HL0, HA2.out, Below.refl _ _⟩
        · have := Pl.lsz_pwt ps; have := HSZ.out; rw [List.drop_zero]; omega
        · rw [Hid, List.drop_zero, List.nil_append, List.nil_append, ← HALL.out]; rfl
      case round =>
        obtain ⟨j, size, now, P, K, wB, hj, rfl, rfl, HSI, HLV, HLE, HNW, HLA, HBB, HBW⟩ := hrel
        by_cases hjk : j < k
        · have q1 : (j : Int) < (k : Int) := by omega
          obtain ⟨p, hp⟩ : ∃ p, ps[j]? = some p := ⟨_, List.getElem?_eq_getElem (by rw [HN.out]; exact hjk)⟩
          have hpm := List.mem_of_getElem? hp
          have at_ := flat_at (f := prCells) (s := 2) (fun _ => rfl) ps j p hp
          have hsr := (HS2.out.below HBB.out).below HBW.out
          obtain ⟨b2, off, rfl, g0⟩ := hsr.1.at_ _ _ (at_ 0 (by omega))
          have g1 := hsr.1.cell _ _ (at_ 1 (by omega))
          rw [← Nat.add_assoc] at g1
          rw [Nat.add_zero] at g0
          have HST : Hid _ := lv_step (all := all) (now := now) (size := size) hp
          have HPW : Hid _ := pwt_drop hp
          have hp1 := psz_le_lsz hpm
          obtain ⟨A7, cap7, rfl, hc7, ht7, _⟩ := HNW.out.tsrc
          have HP := Lib.hid (fun W => psize_any p W (by have := HSZ.out; omega))
          obtain ⟨m, hm⟩ : ∃ m, Pl.psz p = m := ⟨_, rfl⟩
          have hbd : size + m ≤ 1000 := by have := HPW.out; have := HSI.out.2; omega
          rw [hm] at HP HST
          have HM := Lib.hid hm
          obtain ⟨nn, hnn⟩ : ∃ a, now.length = a := ⟨_, rfl⟩
          have HNN := Lib.hid hnn
          rw [hnn]
          have hnn5 : nn ≤ 500 := by have := HLE.out.1; omega
          clear at_ hsr hp1 hpm hp hm ht7 hnn hc7
          obtain ⟨b5, hb5⟩ : ∃ b5, wr.heap.size = b5 := ⟨_, rfl⟩
          obtain ⟨wb, hwb⟩ : ∃ wb, wr.alloc (.cells #[.string (tstr p.key), .string (tstr p.val)] 175) = wb := ⟨_, rfl⟩
          have BB : Blk wb b5 175 [.string (tstr p.key), .string (tstr p.val)] := by rw [← hwb, ← hb5]; exact Blk.new wr 175 _
          have hbb : Below wr.heap.size wr wb := by rw [← hwb]; exact (Below.refl _ _).alloc (Nat.le_refl _) _
          have HBP := Lib.hid BB
          have HBD := Lib.hid hbb
          obtain ⟨e0, e1, _, _⟩ := facts2 BB
          clear BB hbb
          obtain ⟨fb, hfb⟩ : ∃ f : Bool, decide (256 < size + m ∨ (256 < all ∧ all / 2 ≤ size)) = f := ⟨_, rfl⟩
          go_upto_region 13 with fail
          go_cut [11] from 30 to 81 (fun s11 wx => s11 = .bool fb ∧ Hid (Below wb.heap.size wb wx))
          case first =>
            go_wp2_with fail
            refine (HP.out _).mono ?_
            rintro e w3 ⟨rfl, hb3⟩
            have HB3 := Lib.hid hb3
            clear hb3
            have t1 : (all : Int).tdiv 2 = ((all / 2 : Nat) : Int) := (Int.ofNat_tdiv all 2).symm
            obtain ⟨a2, ha2⟩ : ∃ a, all / 2 = a := ⟨_, rfl⟩
            rw [ha2] at hfb t1
            by_cases c1 : 256 < size + m
            · have d1 : decide ((256 : Int) < (size : Int) + (m : Int)) = true := decide_eq_true (by omega)
              have d1' : (256 : Int) < (size : Int) + (m : Int) := by omega
              rw [decide_eq_true (.inl c1)] at hfb
              have HFB := Lib.hid hfb
              clear hfb
              go_wp2_with fail
              go_meet
              case rel => exact ⟨by rw [← HFB.out], HB3⟩
            · have d1 : decide ((256 : Int) < (size : Int) + (m : Int)) = false := decide_eq_false (by omega)
              have d1' : ¬ (256 : Int) < (size : Int) + (m : Int) := by omega
              by_cases c2 : 256 < all
              · have d2 : decide ((256 : Int) < (all : Int)) = true := decide_eq_true (by omega)
                have d2' : (256 : Int) < (all : Int) := by omega
                by_cases c3 : a2 ≤ size
                · have d3 : decide ((a2 : Int) ≤ (size : Int)) = true := decide_eq_true (by omega)
                  have d3' : (a2 : Int) ≤ (size : Int) := by omega
                  have d4 : decide ((j : Int) < (k : Int)) = true := decide_eq_true q1
                  rw [decide_eq_true (.inr ⟨c2, c3⟩)] at hfb
                  have HFB := Lib.hid hfb
                  clear hfb
                  go_wp2_with fail
                  go_meet
                  case rel => exact ⟨by rw [← HFB.out], HB3⟩
                · have d3 : decide ((a2 : Int) ≤ (size : Int)) = false := decide_eq_false (by omega)
                  have d3' : ¬ (a2 : Int) ≤ (size : Int) := by omega
                  rw [decide_eq_false (by omega)] at hfb
                  have HFB := Lib.hid hfb
                  clear hfb
                  go_wp2_with fail
                  go_meet
                  case rel => exact ⟨by rw [← HFB.out], HB3⟩
              · have d2 : decide ((256 : Int) < (all : Int)) = false := decide_eq_false (by omega)
                have d2' : ¬ (256 : Int) < (all : Int) := by omega
                rw [decide_eq_false (by omega)] at hfb
                have HFB := Lib.hid hfb
                clear hfb
                go_wp2_with fail
                go_meet
                case rel => exact ⟨by rw [← HFB.out], HB3⟩
          case rest =>
            obtain ⟨rfl, HB4'⟩ := hcut
            obtain ⟨wd, hwd, HB4⟩ : ∃ x, x = wc ∧ Hid (Below wb.heap.size wb x) := ⟨wc, rfl, HB4'⟩
            clear HB4'
            subst hwd
            have HFB := Lib.hid hfb
            obtain ⟨cl, hcl⟩ : ∃ f : Bool, (fb && decide (0 < nn)) = f := ⟨_, rfl⟩
            have HCL := Lib.hid hcl
            clear hfb e0 e1 hwb
            go_upto_region 14 with fail
            go_cut [56] from 51 to 81 (fun s56 wx => s56 = .bool cl ∧ wd = wx)
            case first =>
              cases fb with
              | false =>
                simp only [Bool.false_and] at hcl
                subst hcl
                go_wp2_with fail
                go_meet
                case rel => exact ⟨rfl, rfl⟩
              | true =>
                simp only [Bool.true_and] at hcl
                have d1 : decide ((0 : Int) < (nn : Int)) = cl := by rw [← hcl]; congr 1; exact propext (by omega)
                go_wp2_with fail
                go_meet
                case rel => exact ⟨by first | rfl | rw [← d1], rfl⟩
            case rest =>
              obtain ⟨rfl, hww⟩ := hcut
              subst hww
              go_upto_if 56 with fail
              go_cut [7, 8] from 57 to 81 (fun s7 s8 wx => ∃ (size' : Nat) (now' : List Pl.Pr) (P' : List (List Pl.Pr)) (K' : List Pl.Key) (wB' : World), s8 = .int .i64 (size' : Nat) ∧ Hid (3 ≤ size' ∧ size' ≤ size) ∧
                Hid ((P' ++ (Pl.lv all (ps.drop (j + 1)) (now' ++ [p]) (size' + m)).1, K' ++ (Pl.lv all (ps.drop (j + 1)) (now' ++ [p]) (size' + m)).2) = Pl.leavesOf ps) ∧ Hid (P'.length + now'.length ≤ j ∧ K'.length = P'.length) ∧ Hid (Rw 175 2 wx wB'.heap.size s7 now'.length (prsCells now')) ∧ Hid (LvAt wA.heap.size wB' gr P' K') ∧ Hid (Below wA.heap.size wA wB') ∧ Hid (Below wB'.heap.size wB' wx) ∧ Hid (Blk wx b5 175 [.string (tstr p.key), .string (tstr p.val)]) ∧ Hid (s7.ownBlock ≠ some b5))
              case first =>
                cases cl with
                | false =>
                  have HNO : Hid (¬ ((256 < size + m ∨ (256 < all ∧ all / 2 ≤ size)) ∧ now ≠ [])) := by
                    rintro ⟨h1, h2⟩
                    have h3 : 0 < nn := by have := HNN.out; have := List.length_pos_iff.2 h2; omega
                    have := HFB.out
                    rw [decide_eq_true h1] at this
                    rw [← this, decide_eq_true h3] at hcl
                    cases hcl
                  go_wp2_with fail
                  go_meet
                  case rel =>
                    have hbl := HBD.out.trans (HB4.out.mono HBD.out.size)
                    refine ⟨size, now, P, K, wB, rfl, ⟨HSI.out.1, Nat.le_refl _⟩, ?_, HLE, ?_, HLA, HBB, HBW.out.trans (hbl.mono HBW.out.size), HBP.out.below HB4.out HBP.out.lt, ?_⟩
                    · have := HLV.out
                      rw [HST.out, if_neg HNO.out] at this
                      exact this
                    · rw [HNN.out]
                      have := HNW.out.below hbl
                      rw [HNN.out] at this
                      exact this
                    · intro e9
                      have := (HNW.out.lt _ (by rw [HNN.out]; exact e9)).2
                      omega
                | true =>
                  have HYES : Hid ((256 < size + m ∨ (256 < all ∧ all / 2 ≤ size)) ∧ now ≠ []) := by
                    have h1 := HCL.out
                    rw [Bool.and_eq_true] at h1
                    refine ⟨of_decide_eq_true (HFB.out.trans h1.1), fun e => ?_⟩
                    have := of_decide_eq_true h1.2
                    have := HNN.out
                    rw [e] at this
                    simp at this
                    omega
                  have hbl := HBD.out.trans (HB4.out.mono HBD.out.size)
                  have HNW2 := HNW.out.below hbl
                  obtain ⟨A7', cap7', e7, hc7, ht7, _⟩ := HNW2.tsrc
                  injection e7 with e71 e72 e73
                  subst e71 e73
                  obtain ⟨vk, vp, vs, hlp⟩ := ((HLA.out.below HBW.out).below hbl).told
                  obtain ⟨gl, hgl⟩ : ∃ g, wd.heap.size = g := ⟨_, rfl⟩
                  obtain ⟨wl, hwl⟩ : ∃ x, wd.alloc (.cells #[.slice A7 nn cap7] 164) = x := ⟨_, rfl⟩
                  obtain ⟨gs, hgs⟩ : ∃ g, wl.heap.size = g := ⟨_, rfl⟩
                  obtain ⟨ws, hws⟩ : ∃ x, wl.alloc (.cells #[.iface 161 (.pointer (some ⟨gl, 0, none⟩))] 166) = x := ⟨_, rfl⟩
                  have hbwl : Below wd.heap.size wd wl := by rw [← hwl]; exact (Below.refl _ _).alloc (Nat.le_refl _) _
                  have hbws : Below wl.heap.size wl ws := by rw [← hws]; exact (Below.refl _ _).alloc (Nat.le_refl _) _
                  have hbds := hbwl.trans (hbws.mono hbwl.size)
                  have BL : Blk ws gl 164 [.slice A7 now.length cap7] := by
                    rw [HNN.out]
                    have : Blk wl gl 164 [.slice A7 nn cap7] := by rw [← hwl, ← hgl]; exact Blk.new wd 164 _
                    exact this.below hbws this.lt
                  have HLF : Hid (LeafAt ws gl now) := ⟨A7, cap7, BL, hc7, ht7.below hbds⟩
                  have HSS : Hid (Src ws (some ⟨gs, 0, none⟩) [leafV gl]) := by rw [← hws, ← hgs]; exact Src.of_blk (Blk.new wl 166 _)
                  have HLP := Lib.hid (hlp.below hbds)
                  have HPB := Lib.hid ((HBP.out.below HB4.out HBP.out.lt).below hbds (HBP.out.below HB4.out HBP.out.lt).lt)
                  have HPD := Lib.hid (HBP.out.below HB4.out HBP.out.lt)
                  have HBDS := Lib.hid (hbl.trans (hbds.mono hbl.size))
                  have HLO : Hid (wA.heap.size ≤ ws.heap.size ∧ P.length ≤ 500 ∧ K.length ≤ 500) := ⟨by have := HBB.out.size; have := HBW.out.size; have := HBDS.out.size; omega, by have := HLE.out; omega, by have := HLE.out; omega⟩
                  obtain ⟨c0, c1, _, _⟩ := facts2 (hlp.blk)
                  obtain ⟨e0, e1, _, _⟩ := facts2 HPD.out
                  have HGR := Lib.hid hlp.blk
                  clear hlp BL hbds hbws hbwl ht7 hc7 HNW2 hcl hbl
                  go_wp2_with (first
                    | (at_builtin
                       refine wpList_rw Tryz.eltPage rfl (.tmp 58) (.tmp 63) rfl rfl HLP.out.pages (some ⟨gs, 0, none⟩) 1 1 [leafV gl] rfl rfl HSS.out (by intro u hu; rw [List.mem_singleton.1 hu]; rfl) (by have := HLO.out.2; omega) HLO.out.1 ?_
                       intro v5 w5 r5 m5
                       have LP5 := Lib.hid (HLP.out.page HLF.out m5 r5)
                       have HGB5 := Lib.hid (m5.only.blk_ HLP.out.pages.kinds' HLP.out.blk (by decide))
                       have HPB5 := Lib.hid (m5.only.blk_ HLP.out.pages.kinds' HPB.out (by decide))
                       obtain ⟨A5, cap5, rfl, _, _, _⟩ := r5.tsrc
                       obtain ⟨c0, c1, f0, f1⟩ := facts2 HGB5.out
                       obtain ⟨w6, hw6⟩ : ∃ x, w5.setCell ⟨gr, 1, none⟩ (.slice A5 (P.length + 1) cap5) = x := ⟨_, rfl⟩
                       rw [hw6] at LP5
                       have HPB6 : Hid (Blk w6 b5 175 [.string (tstr p.key), .string (tstr p.val)]) := by
                         rw [Hid, ← hw6]
                         exact HPB5.out.far (HPB5.out.ne HGB5.out (by decide)) _
                       obtain ⟨k0, k1, h0, h1⟩ := facts2 LP5.out.blk
                       obtain ⟨e0, e1, _, _⟩ := facts2 HPB6.out
                       have HM5 := Lib.hid m5
                       have HO6 : Hid (Below wA.heap.size ws w6) := by
                         rw [Hid, ← hw6]
                         refine (m5.belowR HLP.out.pages HLO.out.1).setCell ?_ _
                         show wA.heap.size ≤ gr
                         omega
                       obtain ⟨gk, hgk⟩ : ∃ g, w6.heap.size = g := ⟨_, rfl⟩
                       obtain ⟨w7, hw7⟩ : ∃ x, w6.alloc (.cells #[.string (tstr p.key)] 9) = x := ⟨_, rfl⟩
                       have hb7 : Below w6.heap.size w6 w7 := by rw [← hw7]; exact (Below.refl _ _).alloc (Nat.le_refl _) _
                       have HSK : Hid (Src w7 (some ⟨gk, 0, none⟩) (ksCells [p.key])) := by rw [← hw7, ← hgk]; exact src_str w6 p.key
                       have LP7 := Lib.hid (LP5.out.below hb7)
                       have HPB7 := Lib.hid (HPB6.out.below hb7 HPB6.out.lt)
                       have HL7 : Hid (wA.heap.size ≤ w7.heap.size) := Nat.le_trans HLO.out.1 (Nat.le_trans HO6.out.size hb7.size)
                       have HO7 := Lib.hid (HO6.out.trans (hb7.mono (Nat.le_trans HLO.out.1 HO6.out.size)))
                       clear r5 m5)
                    | (at_builtin
                       refine wpList_rw Tryz.eltString rfl (.tmp 67) (.tmp 70) rfl rfl LP7.out.keys (some ⟨gk, 0, none⟩) 1 1 (ksCells [p.key]) rfl rfl HSK.out (ksCells_one _) (by have := HLO.out.2; omega) HL7.out ?_
                       intro v8 w8 r8 m8
                       have LP8 := Lib.hid (LP7.out.key m8 r8)
                       have HGB8 := Lib.hid (m8.only.blk_ LP7.out.keys.kinds' LP7.out.blk (by decide))
                       have HPB8 := Lib.hid (m8.only.blk_ LP7.out.keys.kinds' HPB7.out (by decide))
                       obtain ⟨A8, cap8, rfl, _, _, _⟩ := r8.tsrc
                       obtain ⟨c0, c1, f0, f1⟩ := facts2 HGB8.out
                       obtain ⟨w9, hw9⟩ : ∃ x, w8.setCell ⟨gr, 0, none⟩ (.slice A8 (K.length + 1) cap8) = x := ⟨_, rfl⟩
                       rw [hw9] at LP8
                       have HPB9 : Hid (Blk w9 b5 175 [.string (tstr p.key), .string (tstr p.val)]) := by
                         rw [Hid, ← hw9]
                         exact HPB8.out.far (HPB8.out.ne HGB8.out (by decide)) _
                       have HO9 : Hid (Below wA.heap.size ws w9) := by
                         rw [Hid, ← hw9]
                         refine (HO7.out.trans (m8.belowR LP7.out.keys HL7.out)).setCell ?_ _
                         show wA.heap.size ≤ gr
                         omega
                       clear r8 m8)
                    | fail)
                  go_meet
                  case rel =>
                    refine ⟨3, [], P ++ [now], K ++ [p.key], w9, rfl, ⟨Nat.le_refl _, HSI.out.1⟩, ?_, ?_, Rw.nil _ _, LP8.out.at_, ?_, Below.refl _ _, HPB9, fun e9 => by cases e9⟩
                    · have := HLV.out
                      rw [HST.out, if_pos HYES.out] at this
                      rw [Hid, ← this]
                      simp
                    · have := HLE.out
                      have := List.length_pos_iff.2 HYES.out.2
                      refine ⟨?_, ?_⟩
                      · simp; omega
                      · simp; omega
                    · refine HBB.out.trans ?_
                      refine (HBW.out.mono HBB.out.size).trans ?_
                      refine (HBDS.out.mono (Nat.le_trans HBB.out.size HBW.out.size)).trans HO9.out
              case rest =>
                obtain ⟨size', now', P', K', wB', rfl, HSI', HLV', HLE', HNW', HLA', HBB', HBW', HPB', HNE'⟩ := hcut
                obtain ⟨e0, e1, _, _⟩ := facts2 HPB'.out
                obtain ⟨gp, hgp⟩ : ∃ g, wc.heap.size = g := ⟨_, rfl⟩
                obtain ⟨wp, hwp⟩ : ∃ x, wc.alloc (.cells #[.string (tstr p.key), .string (tstr p.val)] 175) = x := ⟨_, rfl⟩
                have hbp : Below wc.heap.size wc wp := by rw [← hwp]; exact (Below.refl _ _).alloc (Nat.le_refl _) _
                have HSP : Hid (Src wp (some ⟨gp, 0, none⟩) (prCells p)) := by rw [← hwp, ← hgp]; exact src_pair wc p
                have HNP := Lib.hid (HNW'.out.below hbp)
                have HBP' := Lib.hid (HBW'.out.trans (hbp.mono HBW'.out.size))
                have HPP := Lib.hid (HPB'.out.below hbp HPB'.out.lt)
                have HLB : Hid (b5 < wB'.heap.size ∨ wB'.heap.size ≤ b5) := Nat.lt_or_ge _ _
                clear hbp
                go_wp2_with (first
                  | (at_builtin
                     refine wpList_rw Tryz.eltPair rfl (.tmp 73) (.tmp 75) rfl rfl HNP.out (some ⟨gp, 0, none⟩) 1 1 (prCells p) rfl rfl HSP.out (by intro u hu; simp only [prCells, List.mem_cons, List.not_mem_nil, or_false] at hu; rcases hu with rfl | rfl <;> rfl) (by have := HLE'.out; omega) HBP'.out.size ?_
                     intro v10 w10 r10 m10
                     have HR10 := Lib.hid r10
                     have HM10 := Lib.hid m10
                     have HPB10 := Lib.hid (m10.only.blk HPP.out HNE'.out)
                     obtain ⟨e0, e1, _, _⟩ := facts2 HPB10.out
                     clear r10 m10)
                  | fail)
                refine (HP.out _).mono ?_
                rintro e w11 ⟨rfl, hb11⟩
                have HB11 := Lib.hid hb11
                have hsm : size' + m ≤ 1000 := by have := HSI'.out.2; omega
                clear hb11
                go_wp2_with fail
                refine ⟨⟨j + 1, size' + m, now' ++ [p], P', K', wB', by omega, by go_num, by go_num, ⟨by have := HSI'.out.1; omega, ?_⟩, HLV', ⟨?_, HLE'.out.2⟩, ?_, HLA', HBB', ?_⟩, by simp [intOf]; omega⟩
                · have := HPW.out
                  have := HSI.out.2
                  have := HSI'.out.2
                  have := HM.out
                  omega
                · have := HLE'.out.1
                  simp
                  omega
                · have := HR10.out.below HB11.out
                  rw [Hid, prsCells_append, List.length_append, List.length_singleton]
                  have e9 : prsCells [p] = prCells p := by simp [prsCells]
                  rw [e9]
                  exact this
                · have h1 := HM10.out.belowR HNP.out HBP'.out.size
                  exact (HBP'.out.trans h1).trans (HB11.out.mono (Nat.le_trans HBP'.out.size h1.size))
        · obtain rfl : j = k := by omega
          obtain ⟨A7, cap7, rfl, hc7, ht7, _⟩ := HNW.out.tsrc
          obtain ⟨nn, hnn⟩ : ∃ a, now.length = a := ⟨_, rfl⟩
          have HNN := Lib.hid hnn
          rw [hnn]
          obtain ⟨vk, vp, vs, hlp⟩ := (HLA.out.below HBW.out).told
          obtain ⟨gl, hgl⟩ : ∃ g, wr.heap.size = g := ⟨_, rfl⟩
          obtain ⟨wl, hwl⟩ : ∃ x, wr.alloc (.cells #[.slice A7 nn cap7] 164) = x := ⟨_, rfl⟩
          obtain ⟨gs, hgs⟩ : ∃ g, wl.heap.size = g := ⟨_, rfl⟩
          obtain ⟨ws, hws⟩ : ∃ x, wl.alloc (.cells #[.iface 161 (.pointer (some ⟨gl, 0, none⟩))] 166) = x := ⟨_, rfl⟩
          have hbwl : Below wr.heap.size wr wl := by rw [← hwl]; exact (Below.refl _ _).alloc (Nat.le_refl _) _
          have hbws : Below wl.heap.size wl ws := by rw [← hws]; exact (Below.refl _ _).alloc (Nat.le_refl _) _
          have hbds := hbwl.trans (hbws.mono hbwl.size)
          have BL : Blk ws gl 164 [.slice A7 now.length cap7] := by
            rw [HNN.out]
            have : Blk wl gl 164 [.slice A7 nn cap7] := by rw [← hwl, ← hgl]; exact Blk.new wr 164 _
            exact this.below hbws this.lt
          have HLF : Hid (LeafAt ws gl now) := ⟨A7, cap7, BL, hc7, ht7.below hbds⟩
          have HSS : Hid (Src ws (some ⟨gs, 0, none⟩) [leafV gl]) := by rw [← hws, ← hgs]; exact Src.of_blk (Blk.new wl 166 _)
          have HLP := Lib.hid (hlp.below hbds)
          have hall := (HBB.out.trans (HBW.out.mono HBB.out.size)).trans (hbds.mono (Nat.le_trans HBB.out.size HBW.out.size))
          have HBS := Lib.hid hall
          have HLO : Hid (wA.heap.size ≤ ws.heap.size ∧ P.length ≤ 500) := ⟨hall.size, by have := HLE.out; omega⟩
          obtain ⟨c0, c1, _, _⟩ := facts2 (hlp.blk)
          obtain ⟨x0, x1, _, _⟩ := facts2 (HX2.out.below (HBB.out.trans (HBW.out.mono HBB.out.size)) HX2.out.lt)
          have HXS := Lib.hid (HX2.out.below hall HX2.out.lt)
          have HFIN : Hid (Pl.leavesOf ps = (P ++ [now], K)) := by
            have := HLV.out
            rw [List.drop_of_length_le (by rw [HN.out]; exact Nat.le_refl _), Pl.lv] at this
            rw [Hid, ← this, List.append_nil]
          clear hlp BL hbds hbws hbwl ht7 hc7 hall hnn
          go_wp2_with (first
            | (at_builtin
               refine wpList_rw Tryz.eltPage rfl (.tmp 83) (.tmp 88) rfl rfl HLP.out.pages (some ⟨gs, 0, none⟩) 1 1 [leafV gl] rfl rfl HSS.out (by intro u hu; rw [List.mem_singleton.1 hu]; rfl) (by have := HLO.out.2; omega) HLO.out.1 ?_
               intro v5 w5 r5 m5
               have LP5 := Lib.hid (HLP.out.page HLF.out m5 r5)
               have HGB5 := Lib.hid (m5.only.blk_ HLP.out.pages.kinds' HLP.out.blk (by decide))
               have HX5 := Lib.hid (m5.only.blk_ HLP.out.pages.kinds' HXS.out (by decide))
               obtain ⟨A5, cap5, rfl, _, _, _⟩ := r5.tsrc
               obtain ⟨c0, c1, f0, f1⟩ := facts2 HGB5.out
               obtain ⟨w6, hw6⟩ : ∃ x, w5.setCell ⟨gr, 1, none⟩ (.slice A5 (P.length + 1) cap5) = x := ⟨_, rfl⟩
               rw [hw6] at LP5
               have HX6 : Hid (Blk w6 gx 242 [.slice none 0 0, .slice none 0 0]) := by
                 rw [Hid, ← hw6]
                 refine HX5.out.far ?_ _
                 show gx ≠ gr
                 have := hgrlt.out; omega
               obtain ⟨Ak, capk, ek, _, _, _⟩ := LP5.out.keys.tsrc
               subst ek
               obtain ⟨k0, k1, h0, h1⟩ := facts2 LP5.out.blk
               obtain ⟨y0, y1, z0, z1⟩ := facts2 HX6.out
               have HO6 : Hid (Below wA.heap.size ws w6) := by
                 rw [Hid, ← hw6]
                 refine (m5.belowR HLP.out.pages HLO.out.1).setCell ?_ _
                 show wA.heap.size ≤ gr
                 omega
               clear r5 m5)
            | fail)
          have HG6 := HX6.out
          have ho : Only (· = gx) w6 ((w6.setCell ⟨gx, 0, none⟩ (Value.slice Ak K.length capk)).setCell ⟨gx, 1, none⟩ (Value.slice A5 (P.length + 1) cap5)) :=
            ((Only.refl (· = gx) w6).setCell (p := ⟨gx, 0, none⟩) (.inl rfl) _).setCell (p := ⟨gx, 1, none⟩) (.inl rfl) _
          refine bodyPost_ret (v := .agg #[Value.slice Ak K.length capk, Value.slice A5 (P.length + 1) cap5]) (results_row rfl rfl ((HG6.set_ 0 _).set_ 1 _)) rfl ⟨_, rfl, ?_, ?_⟩
          · show RowAt _ G 0 _ (Pl.leavesOf ps)
            rw [HFIN.out]
            exact (LP5.out.row G).only ho (one_kinds HG6) (by decide) (by decide)
          · have h1 := (HBA.out.trans (HBS.out.mono HBA.out.size)).trans (HO6.out.mono HBA.out.size)
            have h2 := ho.toBelow (B := w.heap.size) h1.size (fun k hk e => by have := HGX.out; omega)
            first
              | exact h1.trans h2
              | (rw [← HGX.out] at h2 ⊢; exact h1.trans h2)
              | (rw [HGX.out] at h1 h2; exact h1.trans h2)
end Go.Proofs.YtljmklohgpaopaaGreatDoor
