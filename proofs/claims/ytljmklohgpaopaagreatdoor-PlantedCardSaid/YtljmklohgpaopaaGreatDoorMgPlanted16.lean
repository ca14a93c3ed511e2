/- A tree's pages: changed. A tree's pages: changed, all of it. A tree: what is not written yet; is there room. -/
import Derived.Test.YtljmklohgpaopaaGreatDoorMgPlanted14
import Derived.Test.YtljmklohgpaopaaGreatDoorMgPlanted15
set_option linter.unusedVariables false
set_option linter.unusedSimpArgs false

namespace Go.Proofs.YtljmklohgpaopaaGreatDoor
open Go.RowKit
set_option linter.unusedSectionVars false
variable [Inhabited LoT]

/-- How a call that changes a tree ends; there may be nothing to change. -/
def CPost (E : TEnv) (k : Nat) (rd : Int) (G : Gh) (Q : World → Gh → Value → Prop) (none_ : Prop) (w : World) (e : Ending) (w' : World) : Prop :=
  RPost E k rd G Q w e w' ∨ (none_ ∧ e = tdied 8 ∧ ∃ G' rd', TW E w' rd' G' ∧ Ext G G' ∧ TFr w w' ∧ RdK k rd rd')
/-- What a change of a leaf's pairs does. -/
def FOk (K : FuncId) (caps : Array Value) (key : Pl.Key) (f : List Pl.Pr → List Pl.Pr) (none_ : List Pl.Pr → Prop) (w : World) : Prop :=
  ∀ (W : World) (b : Nat) (ps : List Pl.Pr), TFr w W → LeafAt W b ps → Pl.RFit 0 ps → Calls Tryz.prog K (#[.pointer (some ⟨b, 0, none⟩), .int .i64 (Pl.placeOf ps key : Nat), .bool (Pl.hasL key ps)] ++ caps) W fun e w' =>
    ((∃ A cap, e = .returned (.slice A (f ps).length cap) ∧ TSrc w' A (prsCells (f ps)) 175 ∧ ¬ none_ ps) ∨ (none_ ps ∧ e = tdied 8)) ∧ Below W.heap.size W w'
theorem FOk.tfr {K : FuncId} {caps : Array Value} {key : Pl.Key} {f : List Pl.Pr → List Pl.Pr} {none_ : List Pl.Pr → Prop} {w w' : World} (h : FOk K caps key f none_ w) (k : TFr w w') : FOk K caps key f none_ w' := fun W b ps hW => h W b ps (k.trans hW)

set_option maxRecDepth 100000 in
set_option maxHeartbeats 4000000 in
theorem changed_leaf (E : TEnv) (K : FuncId) (caps : Array Value) (f : List Pl.Pr → List Pl.Pr) (none_ : List Pl.Pr → Prop) (key : Pl.Key) (hK : ∀ (args : Array Value) (W : World), (callFunc K args).run Tryz.prog W = .ok (.enter K args) W)
    (hf : ∀ ps : List Pl.Pr, Pl.RFit 0 ps → (∀ p ∈ f ps, Pl.PrFit p) ∧ Pl.lsz (f ps) ≤ 400) (hn : E.m.n ≤ 4096) (t : List Pl.Pr) (r deep : Nat) (lo : Pl.Key) (hi : Option Pl.Key) (w : World) (rd : Int) (G : Gh) (hw : TW E w rd G) (hG : G r = some ⟨0, t⟩)
    (hft : Pl.PFit (decide (deep = 0)) 0 t) (hs : Pl.Spn 0 lo hi t) (hd : deep ≤ 64) (hF : FOk K caps key f none_ w) :
    Calls Tryz.prog 132 #[.pointer (some ⟨E.gT, 0, none⟩), refV r, spanV lo hi, .int .i64 (deep : Nat), .string (tstr key), .func (.func K) #[] caps] w (CPost E 2 rd G (fun w' G' v => RowAt w' G' 0 v (Pl.leafRow (f t)) ∧ ¬ none_ t) (none_ t) w) := by
  have HPGE := Lib.hid (fun (W : World) (hW : TW E W rd G) => page_any E r 0 deep t lo hi W rd G hW hG hft hs hd hn)
  obtain ⟨sl, hsl⟩ : ∃ s, tstr lo = s := ⟨_, rfl⟩
  obtain ⟨sh, hsh⟩ : ∃ s, tstr (hi.getD []) = s := ⟨_, rfl⟩
  obtain ⟨bn, hbn⟩ : ∃ b, hi.isNone = b := ⟨_, rfl⟩
  unfold spanV refV at HPGE ⊢
  rw [hsl, hsh, hbn] at HPGE ⊢
  obtain ⟨w1, hw1⟩ : ∃ x, w.alloc (.cells #[.string sl, .string sh, .bool bn] 178) = x := ⟨_, rfl⟩
  obtain ⟨w2, hw2⟩ : ∃ x, w1.alloc (.cells #[.slice none 0 0, .slice none 0 0] 242) = x := ⟨_, rfl⟩
  obtain ⟨gs, hgs⟩ : ∃ g, w.heap.size = g := ⟨_, rfl⟩
  obtain ⟨gx, hgx⟩ : ∃ g, w1.heap.size = g := ⟨_, rfl⟩
  have hb1 : Below w.heap.size w w1 := by rw [← hw1]; exact (Below.refl _ _).alloc (Nat.le_refl _) _
  have hb2 : Below w1.heap.size w1 w2 := by rw [← hw2]; exact (Below.refl _ _).alloc (Nat.le_refl _) _
  have B1 : Blk w1 gs 178 [.string sl, .string sh, .bool bn] := by rw [← hw1, ← hgs]; exact Blk.new w 178 _
  have B2 : Blk w2 gx 242 [.slice none 0 0, .slice none 0 0] := by rw [← hw2, ← hgx]; exact Blk.new w1 242 _
  have hb12 := hb1.trans (hb2.mono hb1.size)
  have BX := Lib.hid B2
  have HB := Lib.hid hb12
  have HLTS : Hid (w.heap.size ≤ gx) := by have := hb1.size; rw [Hid]; omega
  have HP2 := Lib.hid (HPGE.out w2 (hw.below hb12))
  have HFF := Lib.hid hF
  have HSRT : Hid (Pl.Srt t) := hs.1
  have HRF := Lib.hid (Pl.PFit.root hft)
  have HFP := Lib.hid (hf t HRF.out)
  obtain ⟨e0, e1, e2, _, _, _⟩ := facts3' (B1.below hb2 B1.lt)
  have hm1 : ∀ (b : Nat) (W : World), (Instr.typeAssert (.iface 161 (.pointer (some ⟨b, 0, none⟩))) 166 161 true).run Tryz.prog W = .ok (.tuple #[.pointer (some ⟨b, 0, none⟩), .bool true]) W := fun b W => by kernel_rfl
  clear hw hG hft hs hd hF hsl hsh hbn hb1 hb2 B1 B2 hb12 hf HPGE
  go_enter Tryz.func132, Tryz.ntmps132
  go_wp2_with fail
  refine HP2.out.mono ?_
  rintro e w3 h3
  rcases h3 with ⟨v3, G3, rd3, rfl, hW3, hE3, hT3, hR3, hP3, a3, hA3⟩ | ⟨hal, rfl, ⟨rd5, hd5⟩, hT5⟩
  rotate_left
  · have HAL := Lib.hid hal
    have HD5 := Lib.hid hd5
    have HT5 := Lib.hid hT5
    clear hal hd5 hT5
    unfold tdied
    go_wp2_with fail
    exact ⟨rfl, .inl (.inr ⟨HAL.out, rfl, ⟨rd5, HD5.out⟩, (TFr.of_below HB.out).trans HT5.out⟩)⟩
  obtain ⟨b, rfl, hlf⟩ := hP3
  have HW3 := Lib.hid hW3
  have HE3 := Lib.hid hE3
  have HT3 : Hid (TFr w w3) := (TFr.of_below HB.out).trans hT3
  have HR3 := Lib.hid hR3
  have HLF := Lib.hid hlf
  have BX3 := Lib.hid (hT3.blk BX.out (by decide) (by decide))
  have HPL := Lib.hid (place_any b t key w3 hlf HSRT.out (by have := len_le_lsz t; have := HRF.out.1; omega))
  clear hW3 hE3 hT3 hR3 hlf hA3
  unfold leafV
  go_wp2_with fail
  refine HPL.out.mono ?_
  rintro e w4 ⟨rfl, hb4⟩
  have HB4 := Lib.hid hb4
  have HFC := Lib.hid (HFF.out w4 b t (HT3.out.below hb4) (HLF.out.below hb4) HRF.out)
  have BX4 := Lib.hid (BX3.out.below hb4 BX3.out.lt)
  clear hb4
  go_wp2_with fail
  refine HFC.out.mono ?_
  rintro e w5 ⟨h5, hb5⟩
  rcases h5 with ⟨A5, cap5, rfl, ht5, hy5⟩ | ⟨hno, rfl⟩
  rotate_left
  · have HNO := Lib.hid hno
    have HB5 := Lib.hid (HB4.out.trans (hb5.mono HB4.out.size))
    clear hno hb5
    unfold tdied
    go_wp2_with fail
    exact ⟨rfl, .inr ⟨HNO.out, rfl, G3, rd3, HW3.out.below HB5.out, HE3.out, HT3.out.below HB5.out, HR3.out.mono (by omega)⟩⟩
  have HB5 := Lib.hid (HB4.out.trans (hb5.mono HB4.out.size))
  have HY5 := Lib.hid hy5
  have HLV := Lib.hid (leaves_any A5 cap5 (f t) w5 ht5 (by have := HFP.out.2; omega) G3)
  have BX5 := Lib.hid (BX4.out.below hb5 BX4.out.lt)
  clear ht5 hy5 hb5
  go_wp2_with fail
  refine HLV.out.mono ?_
  rintro e w6 ⟨rv, rfl, hrow, hb6⟩
  have HRW := Lib.hid hrow
  obtain ⟨Ak, ck, Ap, cp, vs, rfl, _⟩ := hrow
  have HB6 := Lib.hid (HB5.out.trans (hb6.mono HB5.out.size))
  have BX6 := Lib.hid (BX5.out.below hb6 BX5.out.lt)
  obtain ⟨x0, x1, y0, y1⟩ := facts2 BX6.out
  clear hb6
  go_wp2_with fail
  have ho := set2_only w6 gx (.slice Ak (Pl.leafRow (f t)).2.length ck) (.slice Ap (Pl.leafRow (f t)).1.length cp)
  have hk := one_kinds BX6.out
  exact bodyPost_ret (v := .agg #[_, _]) (results_row rfl rfl ((BX6.out.set_ 0 _).set_ 1 _)) rfl (.inl (.inl ⟨_, G3, rd3, rfl, (HW3.out.below HB6.out).only ho hk (by decide) (by decide) (by decide) (by decide) (by decide), HE3.out, (HT3.out.below HB6.out).since ho (fun x hx e => by have := HLTS.out; omega), HR3.out.mono (by omega), row_done BX6.out HRW.out, HY5.out⟩))
end Go.Proofs.YtljmklohgpaopaaGreatDoor

namespace Go.Proofs.YtljmklohgpaopaaGreatDoor
open Go.RowKit
set_option linter.unusedSectionVars false
variable [Inhabited LoT]

/-- What changed makes of a tree of this height. -/
def ChOk (E : TEnv) (K : FuncId) (caps : Array Value) (f : List Pl.Pr → List Pl.Pr) (none_ : List Pl.Pr → Prop) (key : Pl.Key) (h : Nat) : Prop :=
  ∀ (t : Pl.Tr h) (r deep : Nat) (lo : Pl.Key) (hi : Option Pl.Key) (w : World) (rd : Int) (G : Gh), TW E w rd G → G r = some ⟨h, t⟩ → Pl.PFit (decide (deep = 0)) h t → Pl.Spn h lo hi t → Pl.InS lo hi key → deep + h ≤ 64 → FOk K caps key f none_ w →
    Calls Tryz.prog 132 #[.pointer (some ⟨E.gT, 0, none⟩), refV r, spanV lo hi, .int .i64 (deep : Nat), .string (tstr key), .func (.func K) #[] caps] w (CPost E (2 * (h + 1)) rd G (fun w' G' v => RowAt w' G' h v (Pl.changed f key h t) ∧ ¬ none_ (Pl.leafOf h t key)) (none_ (Pl.leafOf h t key)) w)
set_option maxRecDepth 100000 in
set_option maxHeartbeats 8000000 in
theorem changed_inner (E : TEnv) (K : FuncId) (caps : Array Value) (f : List Pl.Pr → List Pl.Pr) (none_ : List Pl.Pr → Prop) (key : Pl.Key) (hf : ∀ ps : List Pl.Pr, Pl.RFit 0 ps → (∀ p ∈ f ps, Pl.PrFit p) ∧ Pl.lsz (f ps) ≤ 400) (hn : E.m.n ≤ 4096) (h : Nat) (ih : ChOk E K caps f none_ key h) : ChOk E K caps f none_ key (h + 1) := by
  intro t r deep lo hi w rd G hw hG hft hs hin hd hF
  have hfit : Pl.Fit (h + 1) t := Pl.PFit.root hft
  have hks := len_le_isz t.1
  have hklen : t.1.length ≤ 60 := by have := hfit.2.2.1; omega
  have hway := Pl.wayOf_le t.1 key
  obtain ⟨j, hj⟩ : ∃ j, Pl.wayOf t.1 key = j := ⟨_, rfl⟩
  rw [hj] at hway
  obtain ⟨c, hc⟩ : ∃ c, t.2[j]? = some c := ⟨_, List.getElem?_eq_getElem (by have := hfit.1; omega)⟩
  have hch : Pl.changed f key (h + 1) t = Pl.replaced t.1 t.2 j (Pl.changed f key h c) := by have := Pl.changed_kid (f := f) (k := key) (n := t) (t := c) (by rw [hj]; exact hc); rw [hj] at this; exact this
  have hlf : Pl.leafOf (h + 1) t key = Pl.leafOf h c key := Pl.leafOf_kid (by rw [hj]; exact hc)
  have hcfit := hfit.2.2.2.2 c (List.mem_of_getElem? hc)
  have hcs := Pl.SpnK.at_ j c hs hc
  have hcin : Pl.InS (Pl.kLo lo t.1 j) (Pl.kHi hi t.1 j) key := by have := Pl.SpnK.way key hs hin; rw [hj] at this; exact this
  obtain ⟨hbc, hfew⟩ := Pl.changed_fit key hf h c (Pl.Fit.root h c hcfit)
  have HPGE := Lib.hid (fun (W : World) (hW : TW E W rd G) => page_any E r (h + 1) deep t lo hi W rd G hW hG hft hs (by omega) hn)
  have HIH := Lib.hid (fun (W : World) (rd' : Int) (G' : Gh) (rk : Nat) (hW : TW E W rd' G') (hr : G' rk = some ⟨h, c⟩) (hF' : FOk K caps key f none_ W) => ih c rk (deep + 1) (Pl.kLo lo t.1 j) (Pl.kHi hi t.1 j) W rd' G' hW hr (by rw [decide_eq_false (by omega)]; exact hcfit) hcs hcin (by omega) hF')
  have HRP := Lib.hid (fun (W : World) (rd' : Int) (G' : Gh) (b : Nat) (rv : Value) (hW : TW E W rd' G') (hP : PgOk W G' (innerV b) (h + 1) t none) (hr : RowAt W G' h rv (Pl.changed f key h c)) => replaced_any E rd' G' h b j deep t lo hi (Pl.changed f key h c) rv W hW hP hfit hs hway hr hbc hfew (by omega) hn)
  have HKID := Lib.hid (fun (W : World) (b : Nat) (rs : List Nat) (hb : InnerAt W b t.1 rs) => kid_any lo hi b t.1 rs j W hb hway (by omega))
  have HWAY := Lib.hid (fun (W : World) (b : Nat) (rs : List Nat) (hb : InnerAt W b t.1 rs) => way_any b t.1 rs key W hb (Pl.SpnK.keys hs).1 (by omega))
  rw [hch, hlf]
  obtain ⟨sl, hsl⟩ : ∃ s, tstr lo = s := ⟨_, rfl⟩
  obtain ⟨sh, hsh⟩ : ∃ s, tstr (hi.getD []) = s := ⟨_, rfl⟩
  obtain ⟨bn, hbn⟩ : ∃ b, hi.isNone = b := ⟨_, rfl⟩
  have es : spanV lo hi = .agg #[.string sl, .string sh, .bool bn] := by unfold spanV; rw [hsl, hsh, hbn]
  rw [es] at HPGE HRP HKID ⊢
  unfold refV at HPGE HIH ⊢
  rw [hj] at HWAY
  obtain ⟨w1, hw1⟩ : ∃ x, w.alloc (.cells #[.string sl, .string sh, .bool bn] 178) = x := ⟨_, rfl⟩
  obtain ⟨w2, hw2⟩ : ∃ x, w1.alloc (.cells #[.slice none 0 0, .slice none 0 0] 242) = x := ⟨_, rfl⟩
  obtain ⟨gs, hgs⟩ : ∃ g, w.heap.size = g := ⟨_, rfl⟩
  obtain ⟨gx, hgx⟩ : ∃ g, w1.heap.size = g := ⟨_, rfl⟩
  have hb1 : Below w.heap.size w w1 := by rw [← hw1]; exact (Below.refl _ _).alloc (Nat.le_refl _) _
  have hb2 : Below w1.heap.size w1 w2 := by rw [← hw2]; exact (Below.refl _ _).alloc (Nat.le_refl _) _
  have B1 : Blk w1 gs 178 [.string sl, .string sh, .bool bn] := by rw [← hw1, ← hgs]; exact Blk.new w 178 _
  have B2 : Blk w2 gx 242 [.slice none 0 0, .slice none 0 0] := by rw [← hw2, ← hgx]; exact Blk.new w1 242 _
  have hb12 := hb1.trans (hb2.mono hb1.size)
  have BS := Lib.hid (B1.below hb2 B1.lt)
  have BX := Lib.hid B2
  have HB := Lib.hid hb12
  have HLTS : Hid (w.heap.size ≤ gx) := by have := hb1.size; rw [Hid]; omega
  have HP2 := Lib.hid (HPGE.out w2 (hw.below hb12))
  have HFF := Lib.hid hF
  have HC := Lib.hid hc
  have HFIT := Lib.hid hfit
  have HD := Lib.hid hd
  obtain ⟨n, hnl⟩ : ∃ n, t.1.length = n := ⟨_, rfl⟩
  have HN := Lib.hid hnl
  rw [hnl] at hklen hway
  obtain ⟨e0, e1, e2, _, _, _⟩ := facts3' BS.out
  have hm1 : ∀ (b : Nat) (W : World), (Instr.typeAssert (.iface 180 (.pointer (some ⟨b, 0, none⟩))) 166 161 true).run Tryz.prog W = .ok (.tuple #[.pointer none, .bool false]) W := fun b W => by kernel_rfl
  have hm2 : ∀ (b : Nat) (W : World), (Instr.typeAssert (.iface 180 (.pointer (some ⟨b, 0, none⟩))) 166 180 true).run Tryz.prog W = .ok (.tuple #[.pointer (some ⟨b, 0, none⟩), .bool true]) W := fun b W => by kernel_rfl
  clear hw hG hft hs hd hF hsl hsh hbn hb1 hb2 B1 B2 hb12 hf HPGE ih hfit hks hj hc hch hlf hcfit hcs hcin hbc hfew hin es hnl
  go_enter Tryz.func132, Tryz.ntmps132
  go_wp2_with fail
  refine HP2.out.mono ?_
  rintro e w3 h3
  rcases h3 with ⟨v3, G3, rd3, rfl, hW3, hE3, hT3, hR3, hP3, a3, hA3⟩ | ⟨hal, rfl, ⟨rd5, hd5⟩, hT5⟩
  rotate_left
  · have HAL := Lib.hid hal
    have HD5 := Lib.hid hd5
    have HT5 := Lib.hid hT5
    clear hal hd5 hT5
    unfold tdied
    go_wp2_with fail
    exact ⟨rfl, .inl (.inr ⟨HAL.out, rfl, ⟨rd5, HD5.out⟩, (TFr.of_below HB.out).trans HT5.out⟩)⟩
  have hPP := hP3
  obtain ⟨rs, ⟨b, rfl, hi3⟩, hrl, hgk, _⟩ := hP3
  have HP3 := Lib.hid hPP
  have HW3 := Lib.hid hW3
  have HE3 := Lib.hid hE3
  have HT3 : Hid (TFr w w3) := (TFr.of_below HB.out).trans hT3
  have HR3 := Lib.hid hR3
  have HI3 := Lib.hid hi3
  have HRL : Hid (rs.length = n + 1) := by rw [Hid, hrl, HFIT.out.1, HN.out]
  have BX3 := Lib.hid (hT3.blk BX.out (by decide) (by decide))
  have BS3 := Lib.hid (hT3.blk BS.out (by decide) (by decide))
  have HWY := Lib.hid (HWAY.out w3 b rs hi3)
  obtain ⟨rk, hrk⟩ : ∃ r, rs[j]? = some r := ⟨_, List.getElem?_eq_getElem (by rw [HRL.out]; omega)⟩
  have HRK := Lib.hid hrk
  have HGR : Hid (G3 rk = some ⟨h, c⟩) := hgk j rk c hrk HC.out
  clear hW3 hE3 hT3 hR3 hi3 hA3 hPP hrl hgk hrk
  unfold innerV
  go_wp2_with fail
  refine HWY.out.mono ?_
  rintro e w4 ⟨rfl, hb4⟩
  have HB4 := Lib.hid hb4
  have HW4 := Lib.hid (HW3.out.below hb4)
  have HT4 := Lib.hid (HT3.out.below hb4)
  have BX4 := Lib.hid (BX3.out.below hb4 BX3.out.lt)
  have BS4 := Lib.hid (BS3.out.below hb4 BS3.out.lt)
  have hi4 := HI3.out.below hb4
  have HI4 := Lib.hid hi4
  obtain ⟨A, ca, A', ca', hbb, _, _, hsa, htr⟩ := hi4
  obtain ⟨bk, ok, rfl, g0⟩ := htr.1.at_ _ _ (refs_at HRK.out)
  have HTR := Lib.hid htr
  unfold refV at g0
  obtain ⟨_, c1, _, _⟩ := facts2 hbb
  rw [HRL.out] at c1
  have HBB := Lib.hid hbb
  obtain ⟨e0, e1, e2, _, _, _⟩ := facts3' BS4.out
  have C0 := Lib.hid (And.intro c1 (And.intro g0 (And.intro e0 (And.intro e1 e2))))
  have KD := Lib.hid (HKID.out w4.drew b rs (HI4.out.below ((Below.refl _ _).drew)))
  have q1 : (j : Int) < (n : Int) + 1 := by omega
  have hwr : IntKind.i64.wrap ((deep : Int) + 1) = (deep : Int) + 1 := IntWalk.i64_in _ (by have := HD.out; omega)
  clear hb4 hbb hsa htr g0 c1
  go_wp2_with fail
  refine wp_region_L 23 (fun W => W.cell? ⟨b, 1, none⟩ = some (.slice (some ⟨bk, ok, none⟩) (n + 1) ca') ∧ W.cell? ⟨bk, ok + j, none⟩ = some (.pointer (some ⟨rk, 0, none⟩)) ∧ W.cell? ⟨gs, 0, none⟩ = some (.string sl) ∧ W.cell? ⟨gs, 1, none⟩ = some (.string sh) ∧ W.cell? ⟨gs, 2, none⟩ = some (.bool bn)) (fun _ => True) (by kernel_rfl) C0.out trivial (fun hTill => ?_)
  refine wpL_take' (i := 0) (oi := _) (v := ?_) rfl (by kernel_rfl) (by kernel_rfl) (by kernel_rfl) (by kernel_rfl) (fun _ _ _ h => h) (.inl ⟨by rfl, ?_⟩) (by assumption) ?_
  rotate_left
  · intro W hSw
    (try dsimp only at hSw)
    go_simp
    (try rfl)
  (try simp only [Act.put, List.getElem_toArray, List.getElem_cons_succ, List.getElem_cons_zero, List.setIfInBounds_toArray, List.set_cons_zero, List.set_cons_succ])
  refine wpL_take' (i := 1) (oi := _) (v := ?_) rfl (by kernel_rfl) (by kernel_rfl) (by kernel_rfl) (by kernel_rfl) (fun _ _ _ h => h) (.inl ⟨by rfl, ?_⟩) (by assumption) ?_
  rotate_left
  · intro W hSw
    (try dsimp only at hSw)
    go_simp
    (try rfl)
  (try simp only [Act.put, List.getElem_toArray, List.getElem_cons_succ, List.getElem_cons_zero, List.setIfInBounds_toArray, List.set_cons_zero, List.set_cons_succ])
  refine wpL_take (i := 2) (oi := _) (v := ?_) rfl (by kernel_rfl) (by kernel_rfl) (by kernel_rfl) (by kernel_rfl) (fun _ _ _ h => h) (.inl ⟨by rfl, ?_⟩) (by assumption) ?_
  rotate_left
  · intro W hSw
    (try dsimp only at hSw)
    go_simp
    (try rfl)
  (try simp only [Act.put, List.getElem_toArray, List.getElem_cons_succ, List.getElem_cons_zero, List.setIfInBounds_toArray, List.set_cons_zero, List.set_cons_succ])
  refine wpL_take' (i := 3) (oi := _) (v := ?_) rfl (by kernel_rfl) (by kernel_rfl) (by kernel_rfl) (by kernel_rfl) (fun _ _ _ h => h) (.inl ⟨by rfl, ?_⟩) (by assumption) ?_
  rotate_left
  · intro W hSw
    (try dsimp only at hSw)
    go_simp
    (try rfl)
  (try simp only [Act.put, List.getElem_toArray, List.getElem_cons_succ, List.getElem_cons_zero, List.setIfInBounds_toArray, List.set_cons_zero, List.set_cons_succ])
  refine wpL_take' (i := 4) (oi := _) (v := ?_) rfl (by kernel_rfl) (by kernel_rfl) (by kernel_rfl) (by kernel_rfl) (fun _ _ _ h => h) (.inl ⟨by rfl, ?_⟩) (by assumption) ?_
  rotate_left
  · intro W hSw
    (try dsimp only at hSw)
    go_simp
    (try rfl)
  (try simp only [Act.put, List.getElem_toArray, List.getElem_cons_succ, List.getElem_cons_zero, List.setIfInBounds_toArray, List.set_cons_zero, List.set_cons_succ])
  refine wpL_take' (i := 5) (oi := _) (v := ?_) rfl (by kernel_rfl) (by kernel_rfl) (by kernel_rfl) (by kernel_rfl) (fun _ _ _ h => h) (.inl ⟨by rfl, ?_⟩) (by assumption) ?_
  rotate_left
  · intro W hSw
    (try dsimp only at hSw)
    go_simp
    (try rfl)
  (try simp only [Act.put, List.getElem_toArray, List.getElem_cons_succ, List.getElem_cons_zero, List.setIfInBounds_toArray, List.set_cons_zero, List.set_cons_succ])
  refine wpL_take' (i := 6) (oi := _) (v := ?_) rfl (by kernel_rfl) (by kernel_rfl) (by kernel_rfl) (by kernel_rfl) (fun _ _ _ h => h) (.inl ⟨by rfl, ?_⟩) (by assumption) ?_
  rotate_left
  · intro W hSw
    (try dsimp only at hSw)
    go_simp
    (try rfl)
  (try simp only [Act.put, List.getElem_toArray, List.getElem_cons_succ, List.getElem_cons_zero, List.setIfInBounds_toArray, List.set_cons_zero, List.set_cons_succ])
  refine wpL_take' (i := 7) (oi := _) (v := ?_) rfl (by kernel_rfl) (by kernel_rfl) (by kernel_rfl) (by kernel_rfl) (fun _ _ _ h => h) (.inl ⟨by rfl, ?_⟩) (by assumption) ?_
  rotate_left
  · intro W hSw
    (try dsimp only at hSw)
    go_simp
    (try rfl)
  (try simp only [Act.put, List.getElem_toArray, List.getElem_cons_succ, List.getElem_cons_zero, List.setIfInBounds_toArray, List.set_cons_zero, List.set_cons_succ])
  refine wpL_take' (i := 8) (oi := _) (v := ?_) rfl (by kernel_rfl) (by kernel_rfl) (by kernel_rfl) (by kernel_rfl) (fun _ _ _ h => h) (.inl ⟨by rfl, ?_⟩) (by assumption) ?_
  rotate_left
  · intro W hSw
    (try dsimp only at hSw)
    go_simp
    (try rfl)
  (try simp only [Act.put, List.getElem_toArray, List.getElem_cons_succ, List.getElem_cons_zero, List.setIfInBounds_toArray, List.set_cons_zero, List.set_cons_succ])
  refine wpL_take (i := 9) (oi := _) (v := ?_) rfl (by kernel_rfl) (by kernel_rfl) (by kernel_rfl) (by kernel_rfl) (fun _ _ _ h => h) (.inl ⟨by rfl, ?_⟩) (by assumption) ?_
  rotate_left
  · intro W hSw
    (try dsimp only at hSw)
    go_simp
    (try rfl)
  (try simp only [Act.put, List.getElem_toArray, List.getElem_cons_succ, List.getElem_cons_zero, List.setIfInBounds_toArray, List.set_cons_zero, List.set_cons_succ])
  refine wpL_take' (i := 10) (oi := _) (v := ?_) rfl (by kernel_rfl) (by kernel_rfl) (by kernel_rfl) (by kernel_rfl) (fun _ _ _ h => h) (.inl ⟨by rfl, ?_⟩) (by assumption) ?_
  rotate_left
  · intro W hSw
    (try dsimp only at hSw)
    go_simp
    (try rfl)
  (try simp only [Act.put, List.getElem_toArray, List.getElem_cons_succ, List.getElem_cons_zero, List.setIfInBounds_toArray, List.set_cons_zero, List.set_cons_succ])
  refine wpL_take' (i := 11) (oi := _) (v := ?_) rfl (by kernel_rfl) (by kernel_rfl) (by kernel_rfl) (by kernel_rfl) (fun _ _ _ h => h) (.inl ⟨by rfl, ?_⟩) (by assumption) ?_
  rotate_left
  · intro W hSw
    (try dsimp only at hSw)
    go_simp
    (try rfl)
  (try simp only [Act.put, List.getElem_toArray, List.getElem_cons_succ, List.getElem_cons_zero, List.setIfInBounds_toArray, List.set_cons_zero, List.set_cons_succ])
  refine wpL_take (i := 12) (oi := _) (v := ?_) rfl (by kernel_rfl) (by kernel_rfl) (by kernel_rfl) (by kernel_rfl) (fun _ _ _ h => h) (.inl ⟨by rfl, ?_⟩) (by assumption) ?_
  rotate_left
  · intro W hSw
    (try dsimp only at hSw)
    go_simp
    (try rfl)
  (try simp only [Act.put, List.getElem_toArray, List.getElem_cons_succ, List.getElem_cons_zero, List.setIfInBounds_toArray, List.set_cons_zero, List.set_cons_succ])
  refine wpL_take (i := 13) (oi := _) (v := ?_) rfl (by kernel_rfl) (by kernel_rfl) (by kernel_rfl) (by kernel_rfl) (fun _ _ _ h => h) (.inl ⟨by rfl, ?_⟩) (by assumption) ?_
  rotate_left
  · intro W hSw
    (try dsimp only at hSw)
    go_simp
    (try rfl)
  (try simp only [Act.put, List.getElem_toArray, List.getElem_cons_succ, List.getElem_cons_zero, List.setIfInBounds_toArray, List.set_cons_zero, List.set_cons_succ])
  refine wpL_take' (i := 14) (oi := _) (v := ?_) rfl (by kernel_rfl) (by kernel_rfl) (by kernel_rfl) (by kernel_rfl) (fun _ _ _ h => h) (.inl ⟨by rfl, ?_⟩) (by assumption) ?_
  rotate_left
  · intro W hSw
    (try dsimp only at hSw)
    go_simp
    (try rfl)
  (try simp only [Act.put, List.getElem_toArray, List.getElem_cons_succ, List.getElem_cons_zero, List.setIfInBounds_toArray, List.set_cons_zero, List.set_cons_succ])
  refine wpL_take' (i := 15) (oi := _) (v := ?_) rfl (by kernel_rfl) (by kernel_rfl) (by kernel_rfl) (by kernel_rfl) (fun _ _ _ h => h) (.inl ⟨by rfl, ?_⟩) (by assumption) ?_
  rotate_left
  · intro W hSw
    (try dsimp only at hSw)
    go_simp
    (try rfl)
  (try simp only [Act.put, List.getElem_toArray, List.getElem_cons_succ, List.getElem_cons_zero, List.setIfInBounds_toArray, List.set_cons_zero, List.set_cons_succ])
  refine wpL_take' (i := 17) (oi := _) (v := ?_) rfl (by kernel_rfl) (by kernel_rfl) (by kernel_rfl) (by kernel_rfl) (fun _ _ _ h => h) (.inl ⟨by rfl, ?_⟩) (by assumption) ?_
  rotate_left
  · intro W hSw
    (try dsimp only at hSw)
    go_simp
    (try rfl)
  (try simp only [Act.put, List.getElem_toArray, List.getElem_cons_succ, List.getElem_cons_zero, List.setIfInBounds_toArray, List.set_cons_zero, List.set_cons_succ])
  refine wpL_take' (i := 18) (oi := _) (v := ?_) rfl (by kernel_rfl) (by kernel_rfl) (by kernel_rfl) (by kernel_rfl) (fun _ _ _ h => h) (.inl ⟨by rfl, ?_⟩) (by assumption) ?_
  rotate_left
  · intro W hSw
    (try dsimp only at hSw)
    go_simp
    (try rfl)
  (try simp only [Act.put, List.getElem_toArray, List.getElem_cons_succ, List.getElem_cons_zero, List.setIfInBounds_toArray, List.set_cons_zero, List.set_cons_succ])
  refine wpL_take' (i := 19) (oi := _) (v := ?_) rfl (by kernel_rfl) (by kernel_rfl) (by kernel_rfl) (by kernel_rfl) (fun _ _ _ h => h) (.inl ⟨by rfl, ?_⟩) (by assumption) ?_
  rotate_left
  · intro W hSw
    (try dsimp only at hSw)
    go_simp
    (try rfl)
  (try simp only [Act.put, List.getElem_toArray, List.getElem_cons_succ, List.getElem_cons_zero, List.setIfInBounds_toArray, List.set_cons_zero, List.set_cons_succ])
  refine wpL_take' (i := 20) (oi := _) (v := ?_) rfl (by kernel_rfl) (by kernel_rfl) (by kernel_rfl) (by kernel_rfl) (fun _ _ _ h => h) (.inl ⟨by rfl, ?_⟩) (by assumption) ?_
  rotate_left
  · intro W hSw
    (try dsimp only at hSw)
    go_simp
    (try rfl)
  (try simp only [Act.put, List.getElem_toArray, List.getElem_cons_succ, List.getElem_cons_zero, List.setIfInBounds_toArray, List.set_cons_zero, List.set_cons_succ])
  refine wpL_ready (rs := [16]) (by kernel_rfl) (by simp) ?_
  refine AllL.cons (o := _) rfl (fun K hK => ?_) AllL.nil
  go_simp
  refine (KD.out.mono ?_)
  rintro e w5 ⟨rfl, hb5'⟩
  have hb5 : Below w4.heap.size w4 w5 := undrew hb5'
  have HB5 := Lib.hid hb5
  have HIHC := Lib.hid (HIH.out w5 rd3 G3 rk (HW4.out.below hb5) HGR.out (HFF.out.tfr (HT4.out.below hb5)))
  have cells : ∀ W, TFr w4 W → (W.cell? ⟨b, 1, none⟩ = some (.slice (some ⟨bk, ok, none⟩) (n + 1) ca') ∧ W.cell? ⟨bk, ok + j, none⟩ = some (.pointer (some ⟨rk, 0, none⟩)) ∧ W.cell? ⟨gs, 0, none⟩ = some (.string sl) ∧ W.cell? ⟨gs, 1, none⟩ = some (.string sh) ∧ W.cell? ⟨gs, 2, none⟩ = some (.bool bn)) := by
    intro W hW
    have h1 := hW.blk HBB.out (by decide) (by decide)
    obtain ⟨_, c1, _, _⟩ := facts2 h1
    rw [HRL.out] at c1
    have h2 := hW.blk BS4.out (by decide) (by decide)
    exact ⟨c1, (hW.tsrc HTR.out (by decide) (by decide)).1.cell _ _ (refs_at HRK.out), h2.cell 0, h2.cell 1, h2.cell 2⟩
  have CELLS := Lib.hid cells
  have C5 := Lib.hid (cells w5 (TFr.of_below hb5))
  clear hb5 hb5' KD cells
  go_wp2_with fail
  refine hK.out _ _ ⟨fun _ => C5.out, trivial⟩ (fun hTill => ?_)
  clear hK K
  (try simp only [Act.put, List.getElem_toArray, List.getElem_cons_succ, List.getElem_cons_zero, List.setIfInBounds_toArray, List.set_cons_zero, List.set_cons_succ])
  refine wpL_ready (rs := [21]) (by kernel_rfl) (by simp) ?_
  refine AllL.cons (o := _) rfl (fun K hK => ?_) AllL.nil
  go_simp
  refine HIHC.out.mono ?_
  rintro e w6 h6
  rcases h6 with (⟨v6, G6, rd6, rfl, hW6, hE6, hT6, hR6, hP6, hY6⟩ | ⟨hal, rfl, ⟨rd6, hd6⟩, hT6⟩) | ⟨hno, rfl, G6, rd6, hW6, hE6, hT6, hR6⟩
  rotate_left
  · have HAL := Lib.hid hal
    have HD6 := Lib.hid hd6
    have HT6 := Lib.hid hT6
    clear hal hd6 hT6
    unfold tdied
    go_wp2_with fail
    exact ⟨rfl, .inl (.inr ⟨HAL.out, rfl, ⟨rd6, HD6.out⟩, (HT4.out.below HB5.out).trans HT6.out⟩)⟩
  · have HNO := Lib.hid hno
    have HW6 := Lib.hid hW6
    have HE6 := Lib.hid hE6
    have HT6 := Lib.hid hT6
    have HR6 := Lib.hid hR6
    clear hno hW6 hE6 hT6 hR6
    unfold tdied
    go_wp2_with fail
    exact ⟨rfl, .inr ⟨HNO.out, rfl, G6, rd6, HW6.out, HE3.out.trans HE6.out, (HT4.out.below HB5.out).trans HT6.out, HR3.out.trans HR6.out (by omega)⟩⟩
  obtain ⟨Ak, ck, Ap, cp, vs, rfl, _⟩ := id hP6
  have HY6 := Lib.hid hY6
  have HW6 := Lib.hid hW6
  have HE6 := Lib.hid hE6
  have HT46 : Hid (TFr w4 w6) := (TFr.of_below HB5.out).trans hT6
  have HR6 := Lib.hid hR6
  have C6 := Lib.hid (CELLS.out w6 HT46.out)
  have HRPC := Lib.hid (HRP.out w6 rd6 G6 b _ hW6 (((HP3.out.below HB4.out).below HB5.out).tfr hT6 hE6) hP6)
  clear hW6 hE6 hT6 hR6 hP6 hY6
  go_wp2_with fail
  refine hK.out _ _ ⟨fun _ => C6.out, trivial⟩ (fun hTill => ?_)
  clear hK K
  (try simp only [Act.put, List.getElem_toArray, List.getElem_cons_succ, List.getElem_cons_zero, List.setIfInBounds_toArray, List.set_cons_zero, List.set_cons_succ])
  refine wpL_ready (rs := [22]) (by kernel_rfl) (by simp) ?_
  refine AllL.cons (o := _) rfl (fun K hK => ?_) AllL.nil
  go_simp
  refine HRPC.out.mono ?_
  rintro e w7 h7
  rcases h7 with ⟨v7, G7, rd7, rfl, hW7, hE7, hT7, hR7, hP7⟩ | ⟨hal, rfl, ⟨rd7, hd7⟩, hT7⟩
  rotate_left
  · have HAL := Lib.hid hal
    have HD7 := Lib.hid hd7
    have HT7 := Lib.hid hT7
    clear hal hd7 hT7
    unfold tdied
    go_wp2_with fail
    exact ⟨rfl, .inl (.inr ⟨HAL.out, rfl, ⟨rd7, HD7.out⟩, (HT4.out.trans HT46.out).trans HT7.out⟩)⟩
  obtain ⟨Ak7, ck7, Ap7, cp7, vs7, rfl, _⟩ := id hP7
  have HW7 := Lib.hid hW7
  have HE7 := Lib.hid hE7
  have HT47 : Hid (TFr w4 w7) := HT46.out.trans hT7
  have HR7 := Lib.hid hR7
  have HP7 := Lib.hid hP7
  have C7 := Lib.hid (CELLS.out w7 HT47.out)
  have BX7 := Lib.hid (HT47.out.blk BX4.out (by decide) (by decide))
  obtain ⟨x0, x1, y0, y1⟩ := facts2 BX7.out
  clear hW7 hE7 hT7 hR7 hP7
  go_wp2_with fail
  refine hK.out _ _ ⟨fun _ => C7.out, trivial⟩ (fun hTill => ?_)
  clear hK K
  (try simp only [Act.put, List.getElem_toArray, List.getElem_cons_succ, List.getElem_cons_zero, List.setIfInBounds_toArray, List.set_cons_zero, List.set_cons_succ])
  refine wpL_ready (rs := [23]) (by kernel_rfl) (by simp) ?_
  refine AllL.cons (o := _) rfl (fun K hK => ?_) AllL.nil
  go_simp
  refine hK.out _ _ ⟨fun h => Bool.noConfusion ((show _ = true by kernel_rfl).symm.trans h), trivial⟩ (fun hTill => ?_)
  clear hK K
  (try simp only [Act.put, List.getElem_toArray, List.getElem_cons_succ, List.getElem_cons_zero, List.setIfInBounds_toArray, List.set_cons_zero, List.set_cons_succ])
  refine wpL_done (by kernel_rfl) ?_ _
  clear hTill
  go_wp2_with fail
  have ho := set2_only w7 gx (.slice Ak7 (Pl.replaced t.1 t.2 j (Pl.changed f key h c)).2.length ck7) (.slice Ap7 (Pl.replaced t.1 t.2 j (Pl.changed f key h c)).1.length cp7)
  have hk := one_kinds BX7.out
  exact bodyPost_ret (v := .agg #[_, _]) (results_row rfl rfl ((BX7.out.set_ 0 _).set_ 1 _)) rfl (.inl (.inl ⟨_, G7, rd7, rfl, HW7.out.only ho hk (by decide) (by decide) (by decide) (by decide) (by decide), (HE3.out.trans HE6.out).trans HE7.out, (HT4.out.trans HT47.out).since ho (fun x hx e => by have := HLTS.out; omega), (HR3.out.trans HR6.out (Nat.le_refl _)).trans HR7.out (by omega), row_done BX7.out HP7.out, HY6.out⟩))
theorem changed_any (E : TEnv) (K : FuncId) (caps : Array Value) (f : List Pl.Pr → List Pl.Pr) (none_ : List Pl.Pr → Prop) (key : Pl.Key) (hK : ∀ (args : Array Value) (W : World), (callFunc K args).run Tryz.prog W = .ok (.enter K args) W)
    (hf : ∀ ps : List Pl.Pr, Pl.RFit 0 ps → (∀ p ∈ f ps, Pl.PrFit p) ∧ Pl.lsz (f ps) ≤ 400) (hn : E.m.n ≤ 4096) : ∀ h, ChOk E K caps f none_ key h
  | 0 => fun t r deep lo hi w rd G hw hG hft hs _ hd hF => changed_leaf E K caps f none_ key hK hf hn t r deep lo hi w rd G hw hG hft hs hd hF
  | h + 1 => changed_inner E K caps f none_ key hf hn h (changed_any E K caps f none_ key hK hf hn h)
end Go.Proofs.YtljmklohgpaopaaGreatDoor

namespace Go.Proofs.YtljmklohgpaopaaGreatDoor
open Go.RowKit
set_option linter.unusedSectionVars false
variable [Inhabited LoT]

def Sm (F : Nat → Nat) (k : Nat) : Nat := ((List.range k).map F).sum
theorem Sm_succ (F : Nat → Nat) (k : Nat) : Sm F (k + 1) = Sm F k + F k := by simp [Sm, List.range_succ]
theorem Sm_le {F H : Nat → Nat} {k : Nat} (h : ∀ j, j < k → F j ≤ H j) : Sm F k ≤ Sm H k := by
  induction k with
  | zero => exact Nat.le_refl _
  | succ k ih => rw [Sm_succ, Sm_succ]; have := ih (fun j hj => h j (by omega)); have := h k (by omega); omega
theorem Sm_list {α : Type} (f : α → Nat) : ∀ (l : List α), Sm (fun j => (l[j]?.map f).getD 0) l.length = (l.map f).sum
  | [] => rfl
  | a :: l => by
    have ih := Sm_list f l
    unfold Sm at ih ⊢
    rw [List.length_cons, List.range_succ_eq_map, List.map_cons, List.sum_cons, List.map_map, List.map_cons, List.sum_cons, ← ih]
    rfl
/-- So many pages below a ref are not written. -/
def FrN (w : World) : (h : Nat) → Pl.Tr h → Nat → Nat → Prop
  | 0, _, r, f => ∃ a v, RefAt w r a v ∧ ((a ≠ 0 ∧ f = 0) ∨ (a = 0 ∧ f = 1))
  | h + 1, t, r, f => ∃ a v, RefAt w r a v ∧ ((a ≠ 0 ∧ f = 0) ∨ (a = 0 ∧ ∃ rs F, PgAt w v (.inner t.1 rs) ∧ rs.length = t.2.length ∧ f = 1 + Sm F rs.length ∧ ∀ (j r : Nat) (c : Pl.Tr h), rs[j]? = some r → t.2[j]? = some c → FrN w h c r (F j)))
theorem Inv.at0 {w : World} {G : Gh} {D : Nat → Option (List UInt8)} {n : Nat} {S : List Nat} (hi : Inv w G D n S) {r h : Nat} {t : Pl.Tr h} (hG : G r = some ⟨h, t⟩) : (∃ v, RefAt w r 0 v ∧ PgOk w G v h t none) ∨ ∃ a v, a ≠ 0 ∧ a ≤ 4294967296 + n ∧ RefAt w r a v := by
  rcases hi r h t hG with h1 | ⟨s, v, h1, h2, _⟩
  · exact .inl h1
  · exact .inr ⟨_, v, by have := h2.bounds; omega, by have := h2.bounds; omega, h1⟩
set_option maxRecDepth 100000 in
set_option maxHeartbeats 2000000 in
theorem fresh_leaf (r : Nat) (v : Value) (t : List Pl.Pr) (w : World) (G : Gh) (hr : RefAt w r 0 v) (hp : PgOk w G v 0 t none) : Calls Tryz.prog 161 #[refV r] w fun e w' => e = .returned (.int .i64 (1 : Nat)) ∧ w = w' := by
  obtain ⟨b, rfl, _⟩ := hp
  obtain ⟨c0, c1, _, _⟩ := facts2 hr
  have hm1 : ∀ (W : World), (Instr.typeAssert (.iface 161 (.pointer (some ⟨b, 0, none⟩))) 166 180 true).run Tryz.prog W = .ok (.tuple #[.pointer none, .bool false]) W := fun W => by kernel_rfl
  unfold leafV at c1
  unfold refV
  clear hr
  go_enter Tryz.func161, Tryz.ntmps161
  go_wp2_with fail
  go_ret
  exact ⟨rfl, rfl⟩
set_option maxRecDepth 100000 in
set_option maxHeartbeats 2000000 in
theorem fresh_off (r a : Nat) (v : Value) (w : World) (hr : RefAt w r a v) (ha : a ≠ 0) : Calls Tryz.prog 161 #[refV r] w fun e w' => e = .returned (.int .i64 (0 : Nat)) ∧ w = w' := by
  obtain ⟨c0, c1, _, _⟩ := facts2 hr
  have q1 : ((a : Int) != 0) = true := by simp [ha]
  have q2 : ¬ (a : Int) = 0 := by omega
  unfold refV
  clear hr
  go_enter Tryz.func161, Tryz.ntmps161
  go_wp2_with fail
  go_ret
  exact ⟨rfl, rfl⟩
set_option maxRecDepth 100000 in
set_option maxHeartbeats 2000000 in
theorem fresh_inner (r b n h : Nat) (ks : List Pl.Key) (rs : List Nat) (w : World) (F : Nat → Nat) (hr : RefAt w r 0 (innerV b)) (hin : InnerAt w b ks rs) (hl : rs.length = n) (hn : n ≤ 100000) (hs : Sm F n ≤ 100000)
    (hk : ∀ (j x : Nat), rs[j]? = some x → Calls Tryz.prog 161 #[refV x] w fun e w' => e = .returned (.int .i64 (F j : Nat)) ∧ w = w') :
    Calls Tryz.prog 161 #[refV r] w fun e w' => e = .returned (.int .i64 (1 + Sm F n : Nat)) ∧ w = w' := by
  obtain ⟨c0, c1, _, _⟩ := facts2 hr
  obtain ⟨A, ca, A', ca', hbb, _, _, _, htr⟩ := hin
  obtain ⟨d0, d1, _, _⟩ := facts2 hbb
  rw [hl] at d1
  have HTR := Lib.hid htr
  have HK := Lib.hid hk
  have HL := Lib.hid hl
  have HS := Lib.hid hs
  have hm1 : ∀ (W : World), (Instr.typeAssert (.iface 180 (.pointer (some ⟨b, 0, none⟩))) 166 180 true).run Tryz.prog W = .ok (.tuple #[.pointer (some ⟨b, 0, none⟩), .bool true]) W := fun W => by kernel_rfl
  unfold innerV at c1
  unfold refV at HK ⊢
  clear hr hbb htr hk hl hs
  go_enter Tryz.func161, Tryz.ntmps161
  go_wp2_with fail
  go_loop [3, 27] (fun s i => ∃ k : Nat, k ≤ n ∧ i = .int .i64 (k : Int) ∧ s = .int .i64 (1 + Sm F k : Nat)) (fun _ i => n - (intOf i).toNat)
  case atStart => exact ⟨0, Nat.zero_le _, rfl, rfl⟩
  case round =>
    obtain ⟨k, hkn, rfl, rfl⟩ := hrel
    by_cases hlt : k < n
    · have q1 : (k : Int) < (n : Int) := by omega
      obtain ⟨x, hx⟩ : ∃ x, rs[k]? = some x := ⟨_, List.getElem?_eq_getElem (by rw [HL.out]; exact hlt)⟩
      obtain ⟨bk, ok, rfl, g0⟩ := HTR.out.1.at_ _ _ (refs_at hx)
      unfold refV at g0
      have HC := Lib.hid (HK.out k x hx)
      have h1 := Sm_succ F k
      have h2 : Sm F (k + 1) ≤ Sm F n := by
        have key : ∀ d, Sm F (k + 1) ≤ Sm F (k + 1 + d) := by
          intro d
          induction d with
          | zero => exact Nat.le_refl _
          | succ d ih => have h9 := Sm_succ F (k + 1 + d); rw [show k + 1 + (d + 1) = k + 1 + d + 1 from rfl, h9]; omega
        have := key (n - (k + 1))
        rw [show k + 1 + (n - (k + 1)) = n by omega] at this
        exact this
      obtain ⟨s, hsm⟩ : ∃ s, Sm F k = s := ⟨_, rfl⟩
      obtain ⟨f, hfk⟩ : ∃ s, F k = s := ⟨_, rfl⟩
      have hbd : s + f ≤ 100000 := by have := HS.out; omega
      rw [hsm]
      rw [hfk] at HC
      have H1 : Hid (Sm F (k + 1) = s + f) := by rw [Hid, h1, hsm, hfk]
      clear hx h1 h2 hsm hfk
      go_wp2_with fail
      refine HC.out.mono ?_
      rintro e w' ⟨rfl, rfl⟩
      go_wp2_with fail
      go_round
      case rel => exact ⟨k + 1, by omega, by simp, by rw [H1.out]; go_num⟩
      case measure => simp [intOf]; omega
    · obtain rfl : k = n := by omega
      go_wp2_with fail
      go_ret
      exact ⟨rfl, rfl⟩
theorem mem_le_sum {x : Nat} : ∀ {l : List Nat}, x ∈ l → x ≤ l.sum
  | a :: l, h => by
    rw [List.sum_cons]
    rcases List.mem_cons.1 h with rfl | h
    · omega
    · have := mem_le_sum h; omega
theorem fresh_any {D : Nat → Option (List UInt8)} {n : Nat} {S : List Nat} {w : World} {G : Gh} (hi : Inv w G D n S) : ∀ (h : Nat) (t : Pl.Tr h) (r : Nat), G r = some ⟨h, t⟩ → Pl.pgs h t ≤ 50000 → ∃ f, FrN w h t r f ∧ f ≤ Pl.pgs h t ∧ Calls Tryz.prog 161 #[refV r] w fun e w' => e = .returned (.int .i64 (f : Nat)) ∧ w = w'
  | 0, t, r, hG, _ => by
    rcases hi.at0 hG with ⟨v, h1, h2⟩ | ⟨a, v, h1, _, h2⟩
    · exact ⟨1, ⟨0, v, h1, .inr ⟨rfl, rfl⟩⟩, Nat.le_refl _, fresh_leaf r v t w G h1 h2⟩
    · exact ⟨0, ⟨a, v, h2, .inl ⟨h1, rfl⟩⟩, Nat.zero_le _, fresh_off r a v w h2 h1⟩
  | h + 1, t, r, hG, hp => by
    rcases hi.at0 hG with ⟨v, h1, rs, ⟨b, rfl, h2⟩, h3, h4, _⟩ | ⟨a, v, h1, _, h2⟩
    · have hsum : Pl.pgs (h + 1) t = 1 + (t.2.map (Pl.pgs h)).sum := rfl
      have hpk : ∀ (j : Nat) (c : Pl.Tr h), t.2[j]? = some c → Pl.pgs h c ≤ 50000 := fun j c hc => by
        have : Pl.pgs h c ≤ (t.2.map (Pl.pgs h)).sum := mem_le_sum (List.mem_map.2 ⟨c, List.mem_of_getElem? hc, rfl⟩)
        omega
      have key : ∀ j : Nat, ∃ f, ∀ (x : Nat) (c : Pl.Tr h), rs[j]? = some x → t.2[j]? = some c → FrN w h c x f ∧ f ≤ Pl.pgs h c ∧ Calls Tryz.prog 161 #[refV x] w fun e w' => e = .returned (.int .i64 (f : Nat)) ∧ w = w' := by
        intro j
        cases hx : rs[j]? with
        | none => exact ⟨0, fun x c h9 => by cases h9⟩
        | some x =>
          cases hc : t.2[j]? with
          | none => exact ⟨0, fun x c _ h9 => by cases h9⟩
          | some c =>
            obtain ⟨f, g1, g2, g3⟩ := fresh_any hi h c x (h4 j x c hx hc) (hpk j c hc)
            exact ⟨f, fun x' c' e1 e2 => by injection e1 with e1; injection e2 with e2; subst e1 e2; exact ⟨g1, g2, g3⟩⟩
      obtain ⟨F, hF⟩ := Classical.axiomOfChoice key
      have hle : Sm F rs.length ≤ (t.2.map (Pl.pgs h)).sum := by
        rw [← Sm_list (Pl.pgs h) t.2, h3]
        refine Sm_le fun j hj => ?_
        obtain ⟨x, hx⟩ : ∃ x, rs[j]? = some x := ⟨_, List.getElem?_eq_getElem (by omega)⟩
        obtain ⟨c, hc⟩ : ∃ x, t.2[j]? = some x := ⟨_, List.getElem?_eq_getElem hj⟩
        rw [hc]
        exact (hF j x c hx hc).2.1
      have hlen : t.2.length ≤ (t.2.map (Pl.pgs h)).sum := by
        have : ∀ l : List (Pl.Tr h), l.length ≤ (l.map (Pl.pgs h)).sum := by
          intro l
          induction l with
          | nil => simp
          | cons a l ih =>
            have : 1 ≤ Pl.pgs h a := by cases h with
              | zero => exact Nat.le_refl _
              | succ h => show 1 ≤ 1 + _; omega
            simp; omega
        exact this _
      refine ⟨1 + Sm F rs.length, ⟨0, _, h1, .inr ⟨rfl, rs, F, ⟨b, rfl, h2⟩, h3, rfl, fun j x c hx hc => (hF j x c hx hc).1⟩⟩, by omega, ?_⟩
      exact fresh_inner r b rs.length h t.1 rs w F h1 h2 rfl (by omega) (by omega) (fun j x hx => by
        obtain ⟨c, hc⟩ : ∃ x, t.2[j]? = some x := ⟨_, List.getElem?_eq_getElem (by have := (List.getElem?_eq_some_iff.1 hx).1; omega)⟩
        exact (hF j x c hx hc).2.2)
    · exact ⟨0, ⟨a, v, h2, .inl ⟨h1, rfl⟩⟩, Nat.zero_le _, fresh_off r a v w h2 h1⟩
set_option maxRecDepth 100000 in
set_option maxHeartbeats 2000000 in
theorem fits_any (gT : Nat) (m : Tm) (r f : Nat) (w : World) (hT : TmAt w gT m) (hf : Calls Tryz.prog 161 #[refV r] w.drew fun e w' => e = .returned (.int .i64 (f : Nat)) ∧ w.drew = w') (hb : f ≤ 100000 ∧ m.pages ≤ 100000 ∧ m.n ≤ 100000) :
    Calls Tryz.prog 134 #[.pointer (some ⟨gT, 0, none⟩), refV r] w fun e w' => e = .returned (.bool (decide (f + m.pages + 2 ≤ m.n))) ∧ Below w.heap.size w w' := by
  obtain ⟨g, first, n, root, saved, seq, pages, bad⟩ := m
  obtain ⟨c0, c1, c2, c3, c4, c5, c6, c7, cf⟩ := facts8 hT
  dsimp only at hb c2 c6 ⊢
  obtain ⟨h1, h2, h3⟩ := hb
  have HF := Lib.hid hf
  have HT := Lib.hid hT
  have S0 := Lib.hid (And.intro c2 c6)
  have hw1 : IntKind.i64.wrap ((f : Int) + (pages : Int)) = (f : Int) + (pages : Int) := IntWalk.i64_in _ (by omega)
  have hw2 : IntKind.i64.wrap ((f : Int) + (pages : Int) + 2) = (f : Int) + (pages : Int) + 2 := IntWalk.i64_in _ (by omega)
  unfold refV at HF ⊢
  clear hT hf c0 c1 c3 c4 c5 c7
  go_enter Tryz.func134, Tryz.ntmps134
  go_wp2_with fail
  go_region_held3 (fun W : World => W.cell? ⟨gT, 2, none⟩ = some (.int .i64 (n : Nat)) ∧ W.cell? ⟨gT, 6, none⟩ = some (.int .i64 (pages : Nat))) (first | exact S0.out | exact S1.out) (first
    | (go_at_call 161
       refine HF.out.mono ?_
       rintro e w1 ⟨rfl, hww⟩
       subst hww
       have S1 : Hid (w.drew.cell? ⟨gT, 2, none⟩ = some (.int .i64 (n : Nat)) ∧ w.drew.cell? ⟨gT, 6, none⟩ = some (.int .i64 (pages : Nat))) := S0.out)
    | fail)
  go_wp2_with fail
  go_ret
  have hq : decide ((f : Int) + (pages : Int) + 2 ≤ (n : Int)) = decide (f + pages + 2 ≤ n) := by congr 1; exact propext (by omega)
  exact ⟨by rw [← hq]; rfl, (Below.refl _ _).drew⟩
end Go.Proofs.YtljmklohgpaopaaGreatDoor
