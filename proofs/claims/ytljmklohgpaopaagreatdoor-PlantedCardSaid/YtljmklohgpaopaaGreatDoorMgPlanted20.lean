/- A tree: which sectors are used. A tree: what is kept while pages are written. Plain: a log on a disk that does not die has what was laid into it. No program in sight. A tree: pages are written. A tree: a leaf is written. -/
import Derived.Test.YtljmklohgpaopaaGreatDoorMgPlanted19
import Derived.Test.YtljmklohgpaopaaGreatDoorMgPlanted1
import Derived.Test.YtljmklohgpaopaaGreatDoorMgPlanted4
set_option linter.unusedVariables false
set_option linter.unusedSimpArgs false

namespace Go.Proofs.YtljmklohgpaopaaGreatDoor
open Go.RowKit Go.Maps Go.WideMaps
set_option linter.unusedSectionVars false
variable [Inhabited LoT]

/-- Refs keep their places. -/
def URefs (w w' : World) : Prop := ∀ r a v, RefAt w r a v → ∃ v', RefAt w' r a v' ∧ (v' = v ∨ v = .nilIface)
theorem URefs.trans {a b c : World} (h : URefs a b) (k : URefs b c) : URefs a c := fun r x v hr => by
  obtain ⟨v', h1, h2⟩ := h r x v hr
  obtain ⟨v2, k1, k2⟩ := k r x v' h1
  exact ⟨v2, k1, by rcases h2 with rfl | h2; exact k2; exact .inr h2⟩
def UFr (w w' : World) : Prop := SFr [168, 102] w w' ∧ URefs w w' ∧ (∀ (p : Addr) (s : Value), plainV s = true → w.cell? p = some s → w'.cell? p = some s) ∧ Only (fun k => LO ≤ k) w w'
theorem UFr.trans {a b c : World} (h : UFr a b) (k : UFr b c) : UFr a c := ⟨h.1.trans k.1, h.2.1.trans k.2.1, fun p s hs hc => k.2.2.1 p s hs (h.2.2.1 p s hs hc), h.2.2.2.trans' k.2.2.2⟩
theorem TFr.ufr {w w' : World} (h : TFr w w') : UFr w w' := ⟨h.sfr, h.refs, h.ev, h.low⟩
theorem UFr.of_map {b k : Nat} {js : List Nat} {w w' : World} (h : UsedAt w b k js) (hlb : LO ≤ b) (ho : Only (· = b) w w') : UFr w w' :=
  ⟨⟨_, ho, h.spare.mono (by simp)⟩, fun r a v hr => ⟨v, hr.sp ho h.spare (by simp), .inl rfl⟩, fun p s _ hc => ho.cell hc (fun e => by
    obtain ⟨D, ⟨es, clock, h1, h2⟩, h3⟩ := h
    unfold World.cell? at hc
    rw [e, h1] at hc
    cases hc), ho.mono (fun x _ hx => by rw [hx]; exact hlb)⟩
theorem UFr.of_below {w w' : World} (h : Below w.heap.size w w') : UFr w w' := (TFr.of_below h).ufr
/-- How used ends. -/
def UPost (E : TEnv) (b n : Nat) (rd : Int) (G : Gh) (js : List Nat) (w : World) (e : Ending) (w' : World) : Prop :=
  (∃ G' rd', e = .returned (.tuple #[]) ∧ TW E w' rd' G' ∧ Ext G G' ∧ UFr w w' ∧ RdK n rd rd' ∧ UsedAt w' b js.length js) ∨ (E.d.life = 0 ∧ e = tdied 3 ∧ (∃ rd', DiskAt w' E.m.g E.vD E.d rd') ∧ UFr w w')
def UsOk (E : TEnv) (b h : Nat) : Prop :=
  ∀ (t : Pl.Tr h) (s : Pl.ST h) (r deep : Nat) (lo : Pl.Key) (hi : Option Pl.Key) (w : World) (rd : Int) (G : Gh) (js : List Nat), TW E w rd G → G r = some ⟨h, t⟩ → Pl.PFit (decide (deep = 0)) h t → Pl.Spn h lo hi t → deep + h ≤ 64 → (∃ v, RefAt w r (Pl.top h s) v) → Pl.OnD E.D E.m.n h s t →
    js.length + (Pl.secsOf h s).length ≤ 50000 → UsedAt w b js.length js →
    Calls Tryz.prog 127 #[.pointer (some ⟨E.gT, 0, none⟩), refV r, spanV lo hi, .int .i64 (deep : Nat), .map (some b)] w (UPost E b (Pl.secsOf h s).length rd G (js ++ Pl.secsOf h s) w)
theorem TW.onDisk {E : TEnv} {w : World} {rd : Int} {G : Gh} {r h : Nat} {t : Pl.Tr h} {s : Pl.ST h} {v v' : Value} {a : Nat} (hw : TW E w rd G) (hn : E.m.n ≤ 4096) (hG : G r = some ⟨h, t⟩) (hk : Pl.Kids h t) (hD : Pl.OnD E.D E.m.n h s t) (hr : RefAt w r (Pl.top h s) v) (hr' : RefAt w r a v') (hv : v' ≠ .nilIface) :
    PgOk w G v' h t (some s) := by
  obtain ⟨_, hvv⟩ := hr.uniq hr'
  subst hvv
  rcases hw.inv r h t hG with ⟨x, h1, _⟩ | ⟨s2, x, h1, h2, _, h4⟩
  · have := (h1.uniq hr).1
    have := hD.bounds.1
    omega
  · obtain ⟨e1, e2⟩ := h1.uniq hr
    subst e2
    obtain rfl := Pl.OnD.unique (by omega) h s2 s t hk h2 hD e1
    rcases h4 with h4 | h4
    · exact absurd h4 hv
    · exact h4
theorem PgOk.form' {w : World} {G : Gh} {v : Value} {h : Nat} {t : Pl.Tr h} {so : Option (Pl.ST h)} (hp : PgOk w G v h t so) : v ≠ .nilIface := by
  cases h with
  | zero => obtain ⟨b, rfl, _⟩ := hp; intro e; cases e
  | succ h => obtain ⟨rs, ⟨b, rfl, _⟩, _⟩ := hp; intro e; cases e
set_option maxRecDepth 100000 in
set_option maxHeartbeats 8000000 in
theorem used_page (E : TEnv) (b : Nat) (hlb : LO ≤ b) (hn : E.m.n ≤ 4096) (h : Nat) (ih : ∀ h', h = h' + 1 → UsOk E b h') : UsOk E b h := by
  intro t s r deep lo hi w rd G js hw hG hft hs hd hr hD hl hU
  obtain ⟨vr, hr⟩ := hr
  obtain ⟨hb1, hb2⟩ := hD.bounds
  obtain ⟨tp, htp⟩ : ∃ x, Pl.top h s = x := ⟨_, rfl⟩
  rw [htp] at hb1 hb2
  have hrt : RefAt w r tp vr := htp ▸ hr
  obtain ⟨sl, hsl⟩ : ∃ s, tstr lo = s := ⟨_, rfl⟩
  obtain ⟨sh, hsh⟩ : ∃ s, tstr (hi.getD []) = s := ⟨_, rfl⟩
  obtain ⟨bn, hbn⟩ : ∃ b, hi.isNone = b := ⟨_, rfl⟩
  have es : spanV lo hi = .agg #[.string sl, .string sh, .bool bn] := by unfold spanV; rw [hsl, hsh, hbn]
  have ES := Lib.hid es
  obtain ⟨gs, hgs⟩ : ∃ g, w.heap.size = g := ⟨_, rfl⟩
  obtain ⟨w1, hw1⟩ : ∃ x, w.alloc (.cells #[.string sl, .string sh, .bool bn] 178) = x := ⟨_, rfl⟩
  have hbl : Below w.heap.size w w1 := by rw [← hw1]; exact (Below.refl _ _).alloc (Nat.le_refl _) _
  have B1 : Blk w1 gs 178 [.string sl, .string sh, .bool bn] := by rw [← hw1, ← hgs]; exact Blk.new w 178 _
  have hU1 : UsedAt w1 b js.length js := hU.sp (Only.of_below hbl (fun _ => False)) id
  have hlk := hU1.look tp (by omega)
  obtain ⟨w2, hrun, hU2, ho2⟩ := hU1.step tp (by omega) (by have : 0 < (Pl.secsOf h s).length := List.length_pos_of_mem (Pl.top_mem h s); omega) (by omega)
  obtain ⟨c, hc⟩ : ∃ c, js.count tp = c := ⟨_, rfl⟩
  have hcl : c ≤ 50000 := by rw [← hc]; have := List.count_le_length (a := tp) (l := js); omega
  rw [hc] at hlk hrun
  have hrb := hrt.below hbl hrt.lt
  obtain ⟨c0, c1, _, _⟩ := facts2 hrb
  have hwr : IntKind.i64.wrap ((c : Int) + 1) = (c : Int) + 1 := IntWalk.i64_in _ (by omega)
  have q0 : ((tp : Int) != 0) = true := by simp; omega
  have hw2 := (hw.below hbl).sp ho2 hU1.spare (by simp) (by simp) (by simp) (by simp) (by simp)
  have HPG := Lib.hid (page_any E r h deep t lo hi w2 rd G hw2 hG hft hs (by omega) hn)
  rw [es] at HPG ⊢
  unfold refV at HPG ⊢
  have HRT2 := Lib.hid (hrb.sp ho2 hU1.spare (by simp))
  have BS2 := Lib.hid (B1.sp ho2 hU1.spare (by simp))
  have HU2 := Lib.hid hU2
  have HF2 : Hid (UFr w w2) := (UFr.of_below hbl).trans (UFr.of_map hU1 hlb ho2)
  have HKD := Lib.hid (Pl.RFit.kids h t (Pl.PFit.root hft))
  have HFT := Lib.hid hft
  have HSP := Lib.hid hs
  have HDD := Lib.hid hD
  have HL := Lib.hid hl
  have HG := Lib.hid hG
  have HTP := Lib.hid htp
  obtain ⟨e0, e1, e2, _, _, _⟩ := facts3' BS2.out
  have hmL : ∀ (b : Nat) (W : World), (Instr.typeAssert (.iface 161 (.pointer (some ⟨b, 0, none⟩))) 166 180 true).run Tryz.prog W = .ok (.tuple #[.pointer none, .bool false]) W := fun b W => by kernel_rfl
  have hmI : ∀ (b : Nat) (W : World), (Instr.typeAssert (.iface 180 (.pointer (some ⟨b, 0, none⟩))) 166 180 true).run Tryz.prog W = .ok (.tuple #[.pointer (some ⟨b, 0, none⟩), .bool true]) W := fun b W => by kernel_rfl
  have hlen1 : (js ++ [tp]).length = js.length + 1 := by simp
  rw [← hlen1] at HU2
  clear hw hG hft hs hr hrt hD hl hU hU1 hU2 ho2 hbl B1 hrb hw2 es hsl hsh hbn htp hc hlen1
  go_enter Tryz.func127, Tryz.ntmps127
  go_wp2_with fail
  refine HPG.out.mono ?_
  rintro e w3 h3
  rcases h3 with ⟨v3, G3, rd3, rfl, hW3, hE3, hT3, hR3, hP3, a3, hA3⟩ | ⟨hal, rfl, ⟨rd5, hd5⟩, hT5⟩
  rotate_left
  · have HAL := Lib.hid hal
    have HD5 := Lib.hid hd5
    have HT5 := Lib.hid hT5
    clear hal hd5 hT5
    unfold tdied
    go_wp2_with fail
    exact ⟨rfl, .inr ⟨HAL.out, rfl, ⟨rd5, HD5.out⟩, HF2.out.trans HT5.out.ufr⟩⟩
  obtain ⟨vq, hq, _⟩ := hT3.refs _ _ _ HRT2.out
  have hP := hW3.onDisk hn (hE3 _ _ HG.out) HKD.out HDD.out (by rw [HTP.out]; exact hq) hA3 hP3.form'
  obtain ⟨F3, ho3, hk3⟩ := hT3.only
  have HU3 := Lib.hid (HU2.out.only ho3 hk3)
  have HW3 := Lib.hid hW3
  have HE3 := Lib.hid hE3
  have HF3 := Lib.hid (HF2.out.trans hT3.ufr)
  have HR3 := Lib.hid hR3
  have BS3 := Lib.hid (hT3.blk BS2.out (by decide) (by decide))
  clear hW3 hE3 hT3 hR3 hP3 hA3 hq ho3 hk3 e0 e1 e2
  cases h with
  | zero =>
    obtain ⟨bl, rfl, _⟩ := hP
    unfold leafV
    go_wp2_with fail
    go_end0
    have e9 : Pl.secsOf 0 s = [tp] := by rw [← HTP.out]; rfl
    refine .inl ⟨G3, rd3, rfl, HW3.out, HE3.out, HF3.out, ?_, ?_⟩
    · rw [e9]; exact HR3.out
    · rw [e9]; exact HU3.out
  | succ h =>
    obtain ⟨rs, ⟨bi, rfl, hi3⟩, hrl, hgk, hst⟩ := hP
    have hfit : Pl.Fit (h + 1) t := Pl.PFit.root HFT.out
    have hks := len_le_isz t.1
    have hklen : t.1.length ≤ 60 := by have := hfit.2.2.1; omega
    obtain ⟨N, hN⟩ : ∃ n, rs.length = n := ⟨_, rfl⟩
    have HRL : Hid (rs.length = N) := hN
    have HTL : Hid (t.2.length = N) := hrl.symm.trans hN
    have HSL : Hid (s.2.length = N) := HDD.out.2.2.2.1.trans HTL.out
    have HKL : Hid (t.1.length + 1 = N ∧ t.1.length ≤ 1000) := ⟨by have := hfit.1; have := HTL.out; omega, by omega⟩
    have hN61 : N ≤ 61 := by have := HKL.out.1; omega
    have HPG3 : Hid (PgAt w3 (innerV bi) (.inner t.1 rs)) := ⟨bi, rfl, hi3⟩
    have HGK := Lib.hid hgk
    have HST := Lib.hid (hst s rfl)
    have HFI := Lib.hid hfit
    obtain ⟨A, ca, A', ca', hbb, _, _, _, htr⟩ := hi3
    have HTR := Lib.hid htr
    obtain ⟨_, x1, _, _⟩ := facts2 hbb
    rw [hN] at x1
    have HTP' : Hid (s.1 = tp) := HTP.out
    clear hfit hks hklen hrl hgk hst hbb hN htr
    unfold innerV
    go_wp2_with fail
    go_loopw [41] (fun i wr => ∃ (j : Nat) (G' : Gh) (rd' : Int), j ≤ N ∧ i = .int .i64 (j : Int) ∧ Hid (TW E wr rd' G') ∧ Hid (Ext G3 G') ∧ Hid (UFr w3 wr) ∧ Hid (RdK (1 + ((s.2.take j).flatMap (Pl.secsOf h)).length) rd rd') ∧ Hid (UsedAt wr b (js ++ [tp] ++ (s.2.take j).flatMap (Pl.secsOf h)).length (js ++ [tp] ++ (s.2.take j).flatMap (Pl.secsOf h)))) (fun i _ => N - (intOf i).toNat)
    case atStart => exact ⟨0, G3, rd3, Nat.zero_le _, rfl, HW3.out, Ext.refl _, (TFr.refl w3).ufr, HR3.out, by simp only [List.take_zero, List.flatMap_nil, List.append_nil]; exact HU3.out⟩
    case round =>
      obtain ⟨j, G', rd', hj, rfl, HWr, HEr, HFr, HRr, HUr⟩ := hrel
      by_cases hjN : j < N
      · obtain ⟨rk, hrk⟩ : ∃ x, rs[j]? = some x := ⟨_, List.getElem?_eq_getElem (by rw [HRL.out]; exact hjN)⟩
        obtain ⟨ck, hck⟩ : ∃ x, t.2[j]? = some x := ⟨_, List.getElem?_eq_getElem (by rw [HTL.out]; exact hjN)⟩
        obtain ⟨ak, hak⟩ : ∃ x, s.2[j]? = some x := ⟨_, List.getElem?_eq_getElem (by rw [HSL.out]; exact hjN)⟩
        have hcfit := HFI.out.2.2.2.2 ck (List.mem_of_getElem? hck)
        have hcs := Pl.SpnK.at_ j ck HSP.out hck
        have hpg := HFr.out.1.pg HPG3.out (by decide)
        obtain ⟨bi', ebi, hir⟩ := hpg
        obtain rfl : bi = bi' := by unfold innerV at ebi; injection ebi with _ ebi; injection ebi with ebi; injection ebi with ebi; injection ebi
        have HKID := Lib.hid (kid_any lo hi bi t.1 rs j wr hir (by have := HKL.out.1; omega) HKL.out.2)
        rw [ES.out] at HKID
        have BSr := Lib.hid (HFr.out.1.blk BS3.out (by decide))
        obtain ⟨e0, e1, e2, _, _, _⟩ := facts3' BSr.out
        obtain ⟨bk, ok, rfl, g0⟩ := (HFr.out.1.tsrc HTR.out (by decide)).1.at_ _ _ (refs_at hrk)
        unfold refV at g0
        have q1 : (j : Int) < (N : Int) := by omega
        have hwd : IntKind.i64.wrap ((deep : Int) + 1) = (deep : Int) + 1 := IntWalk.i64_in _ (by omega)
        have hwj : IntKind.i64.wrap ((j : Int) + 1) = (j : Int) + 1 := IntWalk.i64_in _ (by omega)
        have htk : (s.2.take (j + 1)).flatMap (Pl.secsOf h) = (s.2.take j).flatMap (Pl.secsOf h) ++ Pl.secsOf h ak := by rw [List.take_add_one, hak]; simp
        have hall : s.2.flatMap (Pl.secsOf h) = (s.2.take (j + 1)).flatMap (Pl.secsOf h) ++ (s.2.drop (j + 1)).flatMap (Pl.secsOf h) := by rw [← List.flatMap_append, List.take_append_drop]
        have hlen : (js ++ [tp] ++ (s.2.take j).flatMap (Pl.secsOf h)).length + (Pl.secsOf h ak).length ≤ 50000 := by
          have h1 := HL.out
          have h2 : (Pl.secsOf (h + 1) s).length = 1 + (s.2.flatMap (Pl.secsOf h)).length := by show (s.1 :: s.2.flatMap (Pl.secsOf h)).length = _; rw [List.length_cons]; omega
          rw [h2, hall, htk] at h1
          simp only [List.length_append, List.length_cons, List.length_nil] at h1 ⊢
          omega
        have HTK := Lib.hid htk
        have HGR : Hid (G' rk = some ⟨h, ck⟩) := HEr.out _ _ (HGK.out j rk ck hrk hck)
        obtain ⟨pv, hpv⟩ := HST.out j rk ak hrk hak
        obtain ⟨pv', hpv', _⟩ := HFr.out.2.1 _ _ _ hpv
        have HPV := Lib.hid hpv'
        have HDK := Lib.hid (HDD.out.2.2.2.2 j ak ck hak hck)
        have HLN := Lib.hid hlen
        have HCF := Lib.hid hcfit
        have HCS := Lib.hid hcs
        clear hrk hck hak hcfit hcs htk hall hlen hpv hpv' hir
        go_wp2_with fail
        refine HKID.out.mono ?_
        rintro e w4 ⟨rfl, hb4⟩
        have HIH : Hid (Calls Tryz.prog 127 #[.pointer (some ⟨E.gT, 0, none⟩), .pointer (some ⟨rk, 0, none⟩), spanV (Pl.kLo lo t.1 j) (Pl.kHi hi t.1 j), .int .i64 ((deep : Int) + 1), .map (some b)] w4 (UPost E b (Pl.secsOf h ak).length rd' G' (js ++ [tp] ++ (s.2.take j).flatMap (Pl.secsOf h) ++ Pl.secsOf h ak) w4)) :=
          ih h rfl ck ak rk (deep + 1) _ _ w4 rd' G' _ (HWr.out.below hb4) HGR.out (by rw [decide_eq_false (by omega)]; exact HCF.out) HCS.out (by omega) ⟨pv', HPV.out.below hb4 HPV.out.lt⟩ HDK.out HLN.out (HUr.out.sp (Only.of_below hb4 (fun _ => False)) id)
        have HF4 := Lib.hid (HFr.out.trans (UFr.of_below hb4))
        clear hb4
        go_wp2_with fail
        refine HIH.out.mono ?_
        rintro e w5 h5
        rcases h5 with ⟨G5, rd5, rfl, hW5, hE5, hF5, hR5, hU5⟩ | ⟨hal, rfl, ⟨rd5, hd5⟩, hF5⟩
        rotate_left
        · have HAL := Lib.hid hal
          have HD5 := Lib.hid hd5
          have HF5 := Lib.hid hF5
          clear hal hd5 hF5
          unfold tdied
          go_wp2_with fail
          exact ⟨rfl, .inr ⟨HAL.out, rfl, ⟨rd5, HD5.out⟩, (HF3.out.trans HF4.out).trans HF5.out⟩⟩
        have HW5 := Lib.hid hW5
        have HE5 := Lib.hid hE5
        have HF5 := Lib.hid hF5
        have HR5 := Lib.hid hR5
        have HU5 := Lib.hid hU5
        clear hW5 hE5 hF5 hR5 hU5
        go_wp2_with fail
        refine ⟨⟨j + 1, G5, rd5, by omega, by go_num, HW5.out, HEr.out.trans HE5.out, HF4.out.trans HF5.out, ?_, ?_⟩, by simp [intOf]; omega⟩
        · rw [HTK.out, List.length_append]
          exact HRr.out.trans HR5.out (by omega)
        · rw [HTK.out, ← List.append_assoc]
          exact HU5.out
      · obtain rfl : j = N := by omega
        have q1 : decide ((j : Int) < (j : Int)) = false := decide_eq_false (by omega)
        go_wp2_with fail
        go_end0
        have e9 : Pl.secsOf (h + 1) s = [tp] ++ (s.2.take j).flatMap (Pl.secsOf h) := by
          rw [List.take_of_length_le (by rw [HSL.out]; omega), ← HTP'.out]; rfl
        refine .inl ⟨G', rd', rfl, HWr.out, HE3.out.trans HEr.out, HF3.out.trans HFr.out, ?_, ?_⟩
        · rw [e9, List.length_append]; exact HRr.out
        · rw [e9, ← List.append_assoc]; exact HUr.out
theorem used_any (E : TEnv) (b : Nat) (hlb : LO ≤ b) (hn : E.m.n ≤ 4096) : ∀ h, UsOk E b h
  | 0 => used_page E b hlb hn 0 (fun _ e => by cases e)
  | h + 1 => used_page E b hlb hn (h + 1) (fun h' e => by have e2 : h = h' := (by omega); subst e2; exact used_any E b hlb hn h)
end Go.Proofs.YtljmklohgpaopaaGreatDoor

namespace Go.Proofs.YtljmklohgpaopaaGreatDoor
open Go.RowKit Go.Maps Go.WideMaps
set_option linter.unusedSectionVars false
variable [Inhabited LoT]

/-- Pages keep what they have; refs get places. -/
def SRefs (w w' : World) : Prop := ∀ r a v, RefAt w r a v → ∃ a', RefAt w' r a' v ∧ (a ≠ 0 → a' = a)
theorem SRefs.trans {a b c : World} (h : SRefs a b) (k : SRefs b c) : SRefs a c := fun r x v hr => by
  obtain ⟨a', h1, h2⟩ := h r x v hr
  obtain ⟨a2, h3, h4⟩ := k r a' v h1
  exact ⟨a2, h3, fun hx => by have := h2 hx; subst this; exact h4 hx⟩
theorem SRefs.refl (w : World) : SRefs w w := fun r a v hr => ⟨a, hr, fun _ => rfl⟩
def saveT : List TypeId := [168, 102, 104, 3]
/-- What is still to be written becomes no more. -/
theorem FrN.settled {w w' : World} (hp : ∀ v pg, PgAt w v pg → PgAt w' v pg) (hr : SRefs w w') : ∀ (h : Nat) (t : Pl.Tr h) (r f : Nat), FrN w h t r f → ∃ f', f' ≤ f ∧ FrN w' h t r f'
  | 0, t, r, f, ⟨a, v, h1, h2⟩ => by
    obtain ⟨a', h3, h4⟩ := hr r a v h1
    by_cases h0 : a' = 0
    · refine ⟨f, Nat.le_refl _, a', v, h3, .inr ⟨h0, ?_⟩⟩
      rcases h2 with ⟨h5, _⟩ | ⟨_, h5⟩
      · exact absurd (h4 h5 ▸ h0) h5
      · exact h5
    · exact ⟨0, Nat.zero_le _, a', v, h3, .inl ⟨h0, rfl⟩⟩
  | h + 1, t, r, f, ⟨a, v, h1, h2⟩ => by
    obtain ⟨a', h3, h4⟩ := hr r a v h1
    by_cases h0 : a' = 0
    · rcases h2 with ⟨h5, _⟩ | ⟨_, rs, F, h5, h6, h7, h8⟩
      · exact absurd (h4 h5 ▸ h0) h5
      · have key : ∀ j : Nat, ∃ f', f' ≤ F j ∧ ∀ (x : Nat) (c : Pl.Tr h), rs[j]? = some x → t.2[j]? = some c → FrN w' h c x f' := fun j => by
          cases hx : rs[j]? with
          | none => exact ⟨0, Nat.zero_le _, fun x c e => by cases e⟩
          | some x =>
            cases hc : t.2[j]? with
            | none => exact ⟨0, Nat.zero_le _, fun x c _ e => by cases e⟩
            | some c =>
              obtain ⟨f', g1, g2⟩ := FrN.settled hp hr h c x (F j) (h8 j x c hx hc)
              exact ⟨f', g1, fun x' c' e1 e2 => by cases e1; cases e2; exact g2⟩
        refine ⟨1 + Sm (fun j => (key j).choose) rs.length, ?_, a', v, h3, .inr ⟨h0, rs, fun j => (key j).choose, hp _ _ h5, h6, rfl, fun j x c hx hc => (key j).choose_spec.2 x c hx hc⟩⟩
        have := Sm_le (F := fun j => (key j).choose) (H := F) (k := rs.length) (fun j _ => (key j).choose_spec.1)
        omega
    · exact ⟨0, Nat.zero_le _, a', v, h3, .inl ⟨h0, rfl⟩⟩
/-- A page lies in its place now. -/
theorem Inv.put {w w' : World} {G : Gh} {D D' : Nat → Option (List UInt8)} {n : Nat} {S S' : List Nat} (hi : Inv w G D n S) {r h : Nat} {t : Pl.Tr h} {s : Pl.ST h} {v : Value} (hr : RefAt w r 0 v) (hG : G r = some ⟨h, t⟩) (hp : PgOk w G v h t (some s)) (hr' : RefAt w' r (Pl.top h s) v)
    (hk : ∀ k a u, k ≠ r → RefAt w k a u → RefAt w' k a u) (hpg : ∀ u pg, PgAt w u pg → PgAt w' u pg) (hD : ∀ j ∈ S, D' j = D j) (hO : Pl.OnD D' n h s t) (hS : ∀ j ∈ S, j ∈ S') (hs : ∀ j ∈ Pl.secsOf h s, j ∈ S') : Inv w' G D' n S' := by
  have far : ∀ k a u, 2 ≤ a → RefAt w k a u → RefAt w' k a u := fun k a u ha hk' => hk k a u (fun e => by
    subst e
    have := (hk'.uniq hr).1
    omega) hk'
  have pgn : ∀ (k : Nat) (t : Pl.Tr k) (u : Value), PgOk w G u k t none → PgOk w' G u k t none := by
    intro k t u hp
    cases k with
    | zero => exact hpg _ (.leaf t) hp
    | succ k =>
      obtain ⟨rs, g1, g2, g3, _⟩ := hp
      exact ⟨rs, hpg _ _ g1, g2, g3, fun s hs => by cases hs⟩
  have pgs : ∀ (D0 : Nat → Option (List UInt8)) (k : Nat) (t : Pl.Tr k) (s : Pl.ST k) (u : Value), Pl.OnD D0 n k s t → PgOk w G u k t (some s) → PgOk w' G u k t (some s) := by
    intro D0 k t s u hd hp
    cases k with
    | zero => exact hpg _ (.leaf t) hp
    | succ k =>
      obtain ⟨rs, g1, g2, g3, g4⟩ := hp
      refine ⟨rs, hpg _ _ g1, g2, g3, fun s' hs' i x a hx ha => ?_⟩
      obtain ⟨pv, h5⟩ := g4 s' hs' i x a hx ha
      injection hs' with hs'
      subst hs'
      have hil : i < t.2.length := by have := (List.getElem?_eq_some_iff.1 ha).1; have := hd.2.2.2.1; omega
      have hb := (hd.2.2.2.2 i a _ ha (List.getElem?_eq_getElem hil)).bounds
      exact ⟨pv, far _ _ _ hb.1 h5⟩
  intro k h' t' hk'
  by_cases e : k = r
  · subst e
    rw [hG] at hk'
    injection hk' with hk'
    injection hk' with e1 e2
    subst e1
    obtain rfl := eq_of_heq e2
    exact .inr ⟨s, v, hr', hO, hs, .inr (pgs D' _ _ _ _ hO hp)⟩
  · rcases hi k h' t' hk' with ⟨u, g1, g2⟩ | ⟨s2, u, g1, g2, g3, g4⟩
    · exact .inl ⟨u, hk _ _ _ e g1, pgn _ _ _ g2⟩
    · exact .inr ⟨s2, u, hk _ _ _ e g1, g2.congr _ _ _ (fun j hj => hD j (g3 j hj)), fun j hj => hS j (g3 j hj), g4.imp id (pgs D _ _ _ _ g2)⟩
end Go.Proofs.YtljmklohgpaopaaGreatDoor

namespace Go.Proofs.YtljmklohgpaopaaGreatDoor
namespace Pl

theorem alive_of {d : Dk} (h : d.life < 0) : d.alive = true := by unfold Dk.alive; simp [h]
theorem change_of {d : Dk} (h : d.life < 0) (c : Ch) : d.change c = { d with secs := c.on d.secs } := by
  have h0 : ¬ 0 < d.life := by omega
  simp [Dk.change, Dk.tick, alive_of h, h0]
theorem run_of {d : Dk} (h : d.life < 0) (l : List Ch) : d.run l = ({ d with secs := l.foldl (fun s c => c.on s) d.secs }, true) := by
  induction l generalizing d with
  | nil => rfl
  | cons c r ih =>
    rw [Dk.run_cons, alive_of h, if_pos rfl, change_of h, ih (by exact h)]
    rfl
theorem flush_now (s : Sec) : s.flush.now = s.now ∧ s.flush.broken = s.broken := by
  unfold Sec.flush
  split <;> exact ⟨rfl, rfl⟩
theorem look_wr (s : List Sec) (life : Int) (i j : Nat) (t : List UInt8) (hi : i < s.length) : (Dk.mk (Ch.on (.wr i t) s) life).look j = if i = j then some (t ++ zeros (256 - t.length)) else (Dk.mk s life).look j := by
  unfold Dk.look
  simp only [Ch.on, List.getElem?_modify]
  by_cases h : i = j
  · subst h
    rw [List.getElem?_eq_getElem hi]
    simp [Sec.put]
  · cases s[j]? <;> simp [h]
theorem look_sy (s : List Sec) (life : Int) (j : Nat) : (Dk.mk (Ch.on .sy s) life).look j = (Dk.mk s life).look j := by
  unfold Dk.look
  simp only [Ch.on, List.getElem?_map]
  cases s[j]? with
  | none => rfl
  | some x => simp [(flush_now x).1, (flush_now x).2]

end Pl
end Go.Proofs.YtljmklohgpaopaaGreatDoor

namespace Go.Proofs.YtljmklohgpaopaaGreatDoor
open Go.RowKit Go.Maps Go.WideMaps
set_option linter.unusedSectionVars false
variable [Inhabited LoT]

/-- The variables stay. -/
def Gk (w w' : World) : Prop := (EvAt w → EvAt w') ∧ (GE w → GE w') ∧ Only (fun k => LO ≤ k) w w'
theorem Gk.trans {a b c : World} (h : Gk a b) (k : Gk b c) : Gk a c := ⟨fun x => k.1 (h.1 x), fun x => k.2.1 (h.2.1 x), h.2.2.trans' k.2.2⟩
theorem Gk.refl (w : World) : Gk w w := ⟨id, id, Only.refl _ _⟩
theorem Gk.of_ev {w w' : World} (h : ∀ (p : Addr) (s : Value), plainV s = true → w.cell? p = some s → w'.cell? p = some s) (hl : Only (fun k => LO ≤ k) w w') : Gk w w' :=
  ⟨fun x => ⟨h _ _ rfl x.1, h _ _ rfl x.2.1, h _ _ rfl x.2.2⟩, fun x => h _ _ rfl x, hl⟩
theorem UFr.gk {w w' : World} (h : UFr w w') : Gk w w' := Gk.of_ev h.2.2.1 h.2.2.2
theorem Gk.of_below {w w' : World} (h : Below w.heap.size w w') : Gk w w' := (UFr.of_below h).gk
/-- No variable lies in a block that begins so. -/
theorem Gk.ofF {F : Nat → Prop} {w w' : World} (hF : ∀ k, F k → LO ≤ k ∧ ∃ t c cs, Blk w k t (c :: cs) ∧ plainV c = false) (ho : Only F w w') : Gk w w' := by
  have key : ∀ k s, w.cell? ⟨k, 0, none⟩ = some s → plainV s = true → ¬ F k := fun k s h1 h2 hf => by
    obtain ⟨_, t, c, cs, hb, hc⟩ := hF k hf
    have h0 : w.cell? ⟨k, 0, none⟩ = some c := hb.cell 0
    rw [h0] at h1
    injection h1 with h1
    subst h1
    rw [hc] at h2
    cases h2
  refine ⟨fun x => ?_, fun x => ho.cell x (key _ _ x rfl), ho.mono (fun x _ hx => (hF x hx).1)⟩
  have nf := key _ _ x.1 rfl
  exact ⟨ho.cell x.1 nf, ho.cell x.2.1 nf, ho.cell x.2.2 nf⟩
theorem Gk.of1 {w w' : World} {k : Nat} {t : TypeId} {c : Value} {cs : List Value} (hb : Blk w k t (c :: cs)) (hc : plainV c = false) (hlo : LO ≤ k) (ho : Only (· = k) w w') : Gk w w' :=
  Gk.ofF (fun x hx => by subst hx; exact ⟨hlo, t, c, cs, hb, hc⟩) ho
theorem Gk.of_disk {w w' : World} {g : Nat} {v : Value} {d : Pl.Dk} {rd : Int} (hd : DiskAt w g v d rd) (h0 : 0 < d.secs.length) (hlo : ∀ k, dF g v k → LO ≤ k) (ho : Only (dF g v) w w') : Gk w w' := by
  obtain ⟨wr, sy, hgb⟩ := hd.blk
  obtain ⟨A, cap, hv, _⟩ := own_src hd.own
  have hg0 : w.cell? ⟨g, 0, none⟩ = some v := hgb.cell 0
  have hv0 : plainV v = false := by rw [hv]; rfl
  obtain ⟨s, hs⟩ : ∃ s, d.secs[0]? = some s := ⟨_, List.getElem?_eq_getElem h0⟩
  obtain ⟨b, cp, e1, _, hc, _⟩ := hd.sec hs
  rw [Nat.zero_mul] at hc
  have key : ∀ k s, w.cell? ⟨k, 0, none⟩ = some s → plainV s = true → k ≠ g := fun k s h1 h2 hf => by
    subst hf
    rw [hg0] at h1
    injection h1 with h1
    subst h1
    rw [hv0] at h2
    cases h2
  refine ⟨fun x => ?_, fun x => ?_, ho.mono (fun x _ hx => hlo x hx)⟩
  · have nf : ¬ dF g v 0 := by
      rintro (e | e)
      · exact key _ _ x.1 rfl e
      · exact x.far hd h0 e
    exact ⟨ho.cell x.1 nf, ho.cell x.2.1 nf, ho.cell x.2.2 nf⟩
  · refine ho.cell x ?_
    rintro (e | e)
    · exact key _ _ x rfl e
    · rw [e1] at e
      have e2 : b = 1 := Option.some.inj e
      subst e2
      have h2 := Eq.trans (Eq.symm x) hc
      cases h2
/-- What the next free sector is told from. -/
structure FAt (w : World) (gu gx gt gT b : Nat) (js : List Nat) (nx : Nat) : Prop where
  u : Blk w gu 234 [.map (some b)]
  x : Blk w gx 3 [.int .i64 (nx : Nat)]
  t : Blk w gt 45 [.pointer (some ⟨gT, 0, none⟩)]
  m : UsedAt w b js.length js
  low : LO ≤ gx
/-- So a disk was written, at sectors that P holds of. -/
def Wrote (first : Nat) (P : Nat → Prop) (d d' : Pl.Dk) (ok : Bool) : Prop := ∃ l : List Pl.Ch, (∀ c ∈ l, ∃ j x, c = .wr (first + j) x ∧ P j) ∧ d.run l = (d', ok)
theorem Wrote.refl (first : Nat) (P : Nat → Prop) (d : Pl.Dk) : Wrote first P d d true := ⟨[], by simp, rfl⟩
theorem Wrote.trans {first : Nat} {P : Nat → Prop} {a b c : Pl.Dk} {ok : Bool} (h : Wrote first P a b true) (k : Wrote first P b c ok) : Wrote first P a c ok := by
  obtain ⟨l, h1, h2⟩ := h
  obtain ⟨m, k1, k2⟩ := k
  exact ⟨l ++ m, fun x hx => (List.mem_append.1 hx).elim (h1 x) (k1 x), by rw [Pl.Dk.run_append, h2]; exact k2⟩
theorem Wrote.one {first : Nat} {P : Nat → Prop} (d : Pl.Dk) (j : Nat) (x : List UInt8) (hp : P j) : Wrote first P d (d.change (.wr (first + j) x)) d.alive :=
  ⟨[.wr (first + j) x], fun c hc => by obtain rfl := List.mem_singleton.1 hc; exact ⟨j, x, rfl, hp⟩, by rw [Pl.Dk.run_cons]; cases h : d.alive <;> simp [Pl.Dk.run_nil]⟩
def TEnv.at_ (E : TEnv) (d : Pl.Dk) (S : List Nat) : TEnv := ⟨E.gT, E.m, E.vD, d, S⟩
/-- Refs of higher pages stay. -/
def KeptUp (G : Gh) (h : Nat) (w w' : World) : Prop := ∀ k x a v, G k = some x → h < x.1 → RefAt w k a v → RefAt w' k a v
def SPost (h : Nat) (E : TEnv) (gu gx gt b : Nat) (js : List Nat) (rd : Int) (G : Gh) (d : Pl.Dk) (S : List Nat) (nx f r : Nat) (w : World) (e : Ending) (w' : World) : Prop :=
  (∃ d' S' nx', e = .returned (.tuple #[]) ∧ TW (E.at_ d' S') w' rd G ∧ FAt w' gu gx gt E.gT b js nx' ∧ nx ≤ nx' ∧ Pl.freeN nx E.m.n js ≤ Pl.freeN nx' E.m.n js + f ∧ SFr saveT w w' ∧ SRefs w w' ∧ KeptUp G h w w' ∧ Gk w w' ∧ (∃ a v, RefAt w' r a v ∧ a ≠ 0) ∧ Wrote E.m.first (fun j => 2 ≤ j ∧ j ∉ js) d d' true ∧ (∀ j ∈ S, j ∈ S') ∧ ∀ j ∈ S', j ∈ js ∨ j < nx')
  ∨ (e = tdied 3 ∧ (∃ d', Wrote E.m.first (fun j => 2 ≤ j ∧ j ∉ js) d d' false ∧ DiskAt w' E.m.g E.vD d' rd) ∧ SFr saveT w w' ∧ Gk w w')
def StOk (E : TEnv) (gu gx gt b : Nat) (js : List Nat) (h : Nat) : Prop :=
  ∀ (t : Pl.Tr h) (r f nx : Nat) (w : World) (rd : Int) (G : Gh) (d : Pl.Dk) (S : List Nat), TW (E.at_ d S) w rd G → G r = some ⟨h, t⟩ → Pl.RFit h t → FrN w h t r f → FAt w gu gx gt E.gT b js nx → f ≤ Pl.freeN nx E.m.n js → 2 ≤ nx → (∀ j ∈ S, j ∈ js ∨ j < nx) →
    Calls Tryz.prog 128 #[.pointer (some ⟨E.gT, 0, none⟩), refV r, .func (.func 129) #[] #[.pointer (some ⟨gu, 0, none⟩), .pointer (some ⟨gx, 0, none⟩), .pointer (some ⟨gt, 0, none⟩)]] w (SPost h E gu gx gt b js rd G d S nx f r w)
set_option maxRecDepth 100000 in
set_option maxHeartbeats 4000000 in
theorem settle_off (E : TEnv) (gu gx gt b : Nat) (js : List Nat) (h : Nat) (t : Pl.Tr h) (r f nx a : Nat) (v : Value) (w : World) (rd : Int) (G : Gh) (d : Pl.Dk) (S : List Nat) (hw : TW (E.at_ d S) w rd G) (hr : RefAt w r a v) (ha : a ≠ 0) (hal : a ≤ 4294967296 + E.m.n) (hn : E.m.n ≤ 4096) (hfa : FAt w gu gx gt E.gT b js nx) (hS : ∀ j ∈ S, j ∈ js ∨ j < nx) :
    Calls Tryz.prog 128 #[.pointer (some ⟨E.gT, 0, none⟩), refV r, .func (.func 129) #[] #[.pointer (some ⟨gu, 0, none⟩), .pointer (some ⟨gx, 0, none⟩), .pointer (some ⟨gt, 0, none⟩)]] w (SPost h E gu gx gt b js rd G d S nx f r w) := by
  obtain ⟨c0, c1, _, _⟩ := facts2 hr
  have q0 : ((a : Int) != 0) = true := by simp; omega
  have H := Lib.hid (show SPost h E gu gx gt b js rd G d S nx f r w (.returned (.tuple #[])) w from .inl ⟨d, S, nx, rfl, hw, hfa, Nat.le_refl _, Nat.le_add_right _ _, SFr.refl _ _, SRefs.refl _, fun _ _ _ _ _ _ h => h, Gk.refl _, ⟨a, v, hr, ha⟩, Wrote.refl _ _ _, fun j hj => hj, hS⟩)
  unfold refV
  clear hw hr hfa hS
  go_enter Tryz.func128, Tryz.ntmps128
  go_wp2_with fail
  go_end0
  exact H.out
theorem tchange_look {d : Pl.Dk} {i j : Nat} {t : List UInt8} (hal : d.alive = true) (hi : i < d.secs.length) : (d.change (.wr i t)).look j = if i = j then some (t ++ Pl.zeros (256 - t.length)) else d.look j := by
  unfold Pl.Dk.change
  rw [if_pos hal]
  exact Pl.look_wr d.secs (d.tick).life i j t hi
theorem tchange_length (d : Pl.Dk) (c : Pl.Ch) : (d.change c).secs.length = d.secs.length := by
  unfold Pl.Dk.change
  split
  · show (c.on d.secs).length = _
    cases c <;> simp [Pl.Ch.on]
  · rfl
/-- Behind the write: the page has its place. -/
theorem settled (E : TEnv) (gu gx gt b : Nat) (js : List Nat) (h : Nat) (t : Pl.Tr h) (s : Pl.ST h) (r nx y : Nat) (v : Value) (txt : List UInt8) (w w1 w3 w4 : World) (rd : Int) (G : Gh) (d : Pl.Dk) (S : List Nat) (hw : TW (E.at_ d S) w rd G) (hr : RefAt w r 0 v) (hG : G r = some ⟨h, t⟩) (hp : PgOk w G v h t (some s))
    (hfa : FAt w gu gx gt E.gT b js nx) (hnx : nx ≤ y) (h2 : 2 ≤ nx) (hy : y < E.m.n) (hyj : y ∉ js) (hS : ∀ j ∈ S, j ∈ js ∨ j < nx) (hal : d.alive = true) (hO : Pl.OnD (fun j => (d.change (.wr (E.m.first + y) txt)).look (E.m.first + j)) E.m.n h s t) (hst : Pl.top h s = y) (hss : ∀ j ∈ Pl.secsOf h s, j = y ∨ j ∈ S)
    (ho1 : Only (· = gx) w w1) (hx1 : Blk w1 gx 3 [.int .i64 ((y + 1 : Nat) : Int)]) (hb3 : Below (w1.setCell ⟨r, 0, none⟩ (.int .i64 (y : Nat))).heap.size (w1.setCell ⟨r, 0, none⟩ (.int .i64 (y : Nat))) w3) (hd4 : DiskAt w4 E.m.g E.vD (d.change (.wr (E.m.first + y) txt)) rd) (ho4 : Only (dF E.m.g E.vD) w3 w4) :
    TW (E.at_ (d.change (.wr (E.m.first + y) txt)) (S ++ [y])) w4 rd G ∧ FAt w4 gu gx gt E.gT b js (y + 1) ∧ SFr saveT w w4 ∧ SRefs w w4 ∧ KeptUp G h w w4 ∧ Gk w w4 ∧ ∃ a v, RefAt w4 r a v ∧ a ≠ 0 := by
  have hkd := hw.disk.kinds
  have hne : gx ≠ r := hfa.x.ne hr (by decide)
  have hF : Only (fun k => k = gx ∨ k = r ∨ dF E.m.g E.vD k) w w4 := by
    have h1 : Only (fun k => k = gx ∨ k = r ∨ dF E.m.g E.vD k) w (w1.setCell ⟨r, 0, none⟩ (.int .i64 (y : Nat))) := (ho1.mono (fun x _ hx => .inl hx)).setCell (p := ⟨r, 0, none⟩) (.inl (.inr (.inl rfl))) _
    have h3 : Only (fun k => k = gx ∨ k = r ∨ dF E.m.g E.vD k) w w3 := h1.trans (Only.of_below hb3 (fun _ => False)) (fun _ _ h => h.elim)
    exact h3.trans ho4 (fun _ _ h => .inr (.inr h))
  have hK : Kinds (fun k => k = gx ∨ k = r ∨ dF E.m.g E.vD k) w saveT := by
    rintro k (rfl | rfl | hk)
    · exact ⟨_, by simp [saveT], hfa.x.typ⟩
    · exact ⟨_, by simp [saveT], hr.typ⟩
    · obtain ⟨t', k1, k2⟩ := hkd k hk
      refine ⟨t', ?_, k2⟩
      simp only [List.mem_cons, List.not_mem_nil, or_false] at k1
      rcases k1 with rfl | rfl <;> simp [saveT]
  have hnd : ∀ {k : Nat} {t' : TypeId} {cs : List Value}, Blk w k t' cs → t' ∉ [102, 104] → ¬ dF E.m.g E.vD k := fun hb ht hk => by
    obtain ⟨t2, k1, k2⟩ := hkd _ hk
    exact ht (hb.typ.uniq k2 ▸ k1)
  have hr1 : RefAt w1 r 0 v := ho1.blk hr (fun e => hne e.symm)
  have hr2 : RefAt (w1.setCell ⟨r, 0, none⟩ (.int .i64 (y : Nat))) r y v := hr1.set_ 0 _
  have hr4 : RefAt w4 r y v := ho4.blk (hr2.below hb3 hr2.lt) (hnd hr (by decide))
  have hx2 := (Only.refl (· = r) w1).setCell (p := ⟨r, 0, none⟩) (.inl rfl) (.int .i64 (y : Nat)) |>.blk hx1 hne
  have hx4 : Blk w4 gx 3 [.int .i64 ((y + 1 : Nat) : Int)] := ho4.blk (hx2.below hb3 hx2.lt) (hnd hfa.x (by decide))
  have hroom0 : 0 < d.secs.length := by have : E.m.first + E.m.n ≤ d.secs.length := hw.room; omega
  have hd3 : DiskAt w3 E.m.g E.vD d rd := by
    have h1 := hw.disk.only_ ho1 (one_kinds hfa.x) (by decide) (by decide)
    have h2 := h1.only_ ((Only.refl (· = r) w1).setCell (p := ⟨r, 0, none⟩) (.inl rfl) (.int .i64 (y : Nat))) (one_kinds hr1) (by decide) (by decide)
    exact h2.below hb3
  have hevk : Gk w w4 := ((Gk.of1 hfa.x rfl hfa.low ho1).trans (Gk.of1 hr1 rfl (hw.low.g _ _ hG) ((Only.refl (· = r) w1).setCell (p := ⟨r, 0, none⟩) (.inl rfl) _))).trans ((Gk.of_below hb3).trans (Gk.of_disk hd3 hroom0 hw.low.d ho4))
  have hrest : ∀ k a u, k ≠ r → RefAt w k a u → RefAt w4 k a u := fun k a u hk hb => hF.blk hb (fun hf => by
    rcases hf with e | e | e
    · exact absurd (e ▸ hb) (fun h => (h.ne hfa.x (by decide)) rfl)
    · exact hk e
    · exact hnd hb (by decide) e)
  have hroom : E.m.first + E.m.n ≤ d.secs.length := hw.room
  have hi : Inv w4 G (TEnv.D (E.at_ (d.change (.wr (E.m.first + y) txt)) (S ++ [y]))) E.m.n (S ++ [y]) :=
    Inv.put (D := TEnv.D (E.at_ d S)) hw.inv hr hG hp (by rw [hst]; exact hr4) hrest (fun u pg hpg => hpg.sp hF hK.spare (by decide)) (fun j hj => by
      show (d.change (.wr (E.m.first + y) txt)).look (E.m.first + j) = d.look (E.m.first + j)
      have hyne : ¬ E.m.first + y = E.m.first + j := fun e => by
        have : y = j := by omega
        subst this
        rcases hS _ hj with h | h
        · exact hyj h
        · omega
      rw [tchange_look hal (by omega), if_neg hyne]) hO (fun j hj => List.mem_append_left _ hj) (fun j hj => by
      rcases hss j hj with rfl | h
      · simp
      · exact List.mem_append_left _ h)
  refine ⟨⟨hw.tree.sp hF hK.spare (by decide), hd4, hi, ?_, ⟨hw.low.g, hw.low.d, hw.low.t⟩⟩, ⟨hfa.u.sp hF hK.spare (by decide), hx4, hfa.t.sp hF hK.spare (by decide), hfa.m.only hF hK, hfa.low⟩, ⟨_, hF, hK.spare⟩, fun k a u hk => ?_, fun k x a u hk hx hb => hrest k a u (fun e => by subst e; rw [hG] at hk; injection hk with hk; subst hk; exact absurd hx (Nat.lt_irrefl _)) hb, hevk, y, v, hr4, by omega⟩
  · show E.m.first + E.m.n ≤ (d.change (.wr (E.m.first + y) txt)).secs.length
    rw [tchange_length]; exact hroom
  · by_cases e : k = r
    · subst e
      obtain ⟨e1, e2⟩ := hk.uniq hr
      subst e1 e2
      exact ⟨y, hr4, fun h => absurd rfl h⟩
    · exact ⟨a, hrest k a u e hk, fun _ => rfl⟩
end Go.Proofs.YtljmklohgpaopaaGreatDoor

namespace Go.Proofs.YtljmklohgpaopaaGreatDoor
open Go.RowKit Go.Maps Go.WideMaps
set_option linter.unusedSectionVars false
variable [Inhabited LoT]

theorem enters_free (args : Array Value) (W : World) : (callFunc 129 args).run Tryz.prog W = .ok (.enter 129 args) W := by simp [go_sem]
set_option maxRecDepth 100000 in
set_option maxHeartbeats 8000000 in
theorem settle_leaf (E : TEnv) (gu gx gt b : Nat) (js : List Nat) (hn : E.m.n ≤ 4096) (t : List Pl.Pr) (r nx bl : Nat) (w : World) (rd : Int) (G : Gh) (d : Pl.Dk) (S : List Nat) (hw : TW (E.at_ d S) w rd G) (hG : G r = some ⟨0, t⟩) (hft : Pl.RFit 0 t) (hr : RefAt w r 0 (leafV bl)) (hlf : LeafAt w bl t) (hfa : FAt w gu gx gt E.gT b js nx)
    (hroom : 1 ≤ Pl.freeN nx E.m.n js) (h2 : 2 ≤ nx) (hS : ∀ j ∈ S, j ∈ js ∨ j < nx) (hlen : (Pl.leafText t).length ≤ 256) :
    Calls Tryz.prog 128 #[.pointer (some ⟨E.gT, 0, none⟩), refV r, .func (.func 129) #[] #[.pointer (some ⟨gu, 0, none⟩), .pointer (some ⟨gx, 0, none⟩), .pointer (some ⟨gt, 0, none⟩)]] w (SPost 0 E gu gx gt b js rd G d S nx 1 r w) := by
  obtain ⟨y, hy1, hy2, hy3, hy4, hy5⟩ := Pl.freeN_next E.m.n js _ nx rfl hroom
  have hfree := free_any gu gx gt E.gT b js.length E.m js nx y w hfa.u hfa.x hfa.t hw.tree hfa.m hy1 hy2 hn hy3 hy4
  have HFREE := Lib.hid hfree
  have HEN := enters_free
  obtain ⟨c0, c1, f0, f1⟩ := facts2 hr
  unfold leafV at c1
  have hne : gx ≠ r := hfa.x.ne hr (by decide)
  have M1 := Tryz.methodLeafText
  have hm1 : ∀ (b : Nat) (W : World), (Instr.typeAssert (.iface 161 (.pointer (some ⟨b, 0, none⟩))) 166 180 true).run Tryz.prog W = .ok (.tuple #[.pointer none, .bool false]) W := fun b W => by kernel_rfl
  have HR := Lib.hid hr
  have HNE := Lib.hid hne
  unfold refV
  go_enter Tryz.func128, Tryz.ntmps128
  go_wp2_with fail
  refine HFREE.out.mono ?_
  rintro e w1 ⟨rfl, ho1, hx1⟩
  have hr1 : RefAt w1 r 0 (leafV bl) := ho1.blk HR.out (fun e => HNE.out e.symm)
  obtain ⟨d0, d1, g0, g1⟩ := facts2 hr1
  unfold leafV at d1
  obtain ⟨w2, hw2⟩ : ∃ x, w1.setCell ⟨r, 0, none⟩ (.int .i64 (y : Nat)) = x := ⟨_, rfl⟩
  have ho2 : Only (· = r) w1 w2 := by rw [← hw2]; exact (Only.refl (· = r) w1).setCell (p := ⟨r, 0, none⟩) (.inl rfl) _
  have hr2 : RefAt w2 r y (leafV bl) := by rw [← hw2]; exact hr1.set_ 0 _
  have hk1 := one_kinds hfa.x
  have hk2 := one_kinds hr1
  have hlf2 : LeafAt w2 bl t := (hlf.only ho1 hk1 (by decide) (by decide)).only ho2 hk2 (by decide) (by decide)
  have hT2 : TmAt w2 E.gT E.m := (ho1.blk_ hk1 hw.tree (by decide) |> fun h => ho2.blk_ hk2 h (by decide))
  have hd2 : DiskAt w2 E.m.g E.vD d rd := (hw.disk.only_ ho1 hk1 (by decide) (by decide)).only_ ho2 hk2 (by decide) (by decide)
  have hgk2 : Gk w w2 := (Gk.of1 hfa.x rfl hfa.low ho1).trans (Gk.of1 hr1 rfl (hw.low.g _ _ hG) ho2)
  have hfr2 : SFr saveT w w2 := SFr.trans ⟨_, ho1, hk1.spare.mono (by simp [saveT])⟩ ⟨_, ho2, hk2.spare.mono (by simp [saveT])⟩
  obtain ⟨x0, x1, _, _⟩ := facts2 hr2
  unfold leafV at x1
  have D0 := Lib.hid (And.intro x0 x1)
  have HR2 := Lib.hid hr2
  have HT2 := Lib.hid hT2
  have HD2 := Lib.hid hd2
  have HFR2 := Lib.hid hfr2
  have HGK2 := Lib.hid hgk2
  have HX1 := Lib.hid hx1
  have HO1 := Lib.hid ho1
  have HTXT := Lib.hid (fun W hW => ltext_any bl t W (hlf2.below hW) (by have := hft.1; omega) (fun p hp => by have := hft.2 p hp; exact ⟨by have := this.1.2; omega, by have := this.2; omega⟩))
  have HY : Hid (2 ≤ y) := Nat.le_trans h2 hy1
  have HW := Lib.hid hw
  have HG := Lib.hid hG
  have HLF := Lib.hid hlf
  have HFA := Lib.hid hfa
  have HS := Lib.hid hS
  have HLEN := Lib.hid hlen
  have HW2 := Lib.hid hw2
  clear hr1 d1 g1 ho1 hx1 ho2 hr2 hk1 hk2 hlf2 hT2 hd2 hfr2 hgk2 x0 x1 hw hG hft hr hlf hfa hS hlen hfree c0 c1 f0 f1 HFREE
  go_wp2_with fail
  clear d0 g0
  refine wp_region_L 10 (fun _ => True) (fun W => W.cell? ⟨r, 0, none⟩ = some (.int .i64 (y : Nat)) ∧ W.cell? ⟨r, 1, none⟩ = some (.iface 161 (.pointer (some ⟨bl, 0, none⟩)))) (by kernel_rfl) trivial D0.out (fun hTill => ?_)
  refine wpL_take' (i := 0) (oi := _) (v := ?_) rfl (by kernel_rfl) (by kernel_rfl) (by kernel_rfl) (by kernel_rfl) (fun _ _ _ h => h) (.inl ⟨by rfl, ?_⟩) (by assumption) ?_
  rotate_left
  · intro W hSw
    (try dsimp only at hSw)
    go_simp
    (try rfl)
  (try simp only [Act.put, List.getElem_toArray, List.getElem_cons_succ, List.getElem_cons_zero, List.setIfInBounds_toArray, List.set_cons_zero, List.set_cons_succ])
  refine wpL_take' (i := 1) (oi := _) (v := ?_) rfl (by kernel_rfl) (by kernel_rfl) (by kernel_rfl) (by kernel_rfl) (fun _ _ _ h => h) (.inl ⟨by rfl, ?_⟩) (by assumption) ?_
  rotate_left
  · intro W hSw
    (try dsimp only at hSw)
    go_simp
    (try rfl)
  (try simp only [Act.put, List.getElem_toArray, List.getElem_cons_succ, List.getElem_cons_zero, List.setIfInBounds_toArray, List.set_cons_zero, List.set_cons_succ])
  refine wpL_take' (i := 2) (oi := _) (v := ?_) rfl (by kernel_rfl) (by kernel_rfl) (by kernel_rfl) (by kernel_rfl) (fun _ _ _ h => h) (.inl ⟨by rfl, ?_⟩) (by assumption) ?_
  rotate_left
  · intro W hSw
    (try dsimp only at hSw)
    go_simp
    (try rfl)
  (try simp only [Act.put, List.getElem_toArray, List.getElem_cons_succ, List.getElem_cons_zero, List.setIfInBounds_toArray, List.set_cons_zero, List.set_cons_succ])
  refine wpL_take' (i := 3) (oi := _) (v := ?_) rfl (by kernel_rfl) (by kernel_rfl) (by kernel_rfl) (by kernel_rfl) (fun _ _ _ h => h) (.inl ⟨by rfl, ?_⟩) (by assumption) ?_
  rotate_left
  · intro W hSw
    (try dsimp only at hSw)
    go_simp
    (try rfl)
  (try simp only [Act.put, List.getElem_toArray, List.getElem_cons_succ, List.getElem_cons_zero, List.setIfInBounds_toArray, List.set_cons_zero, List.set_cons_succ])
  refine wpL_take' (i := 4) (oi := _) (v := ?_) rfl (by kernel_rfl) (by kernel_rfl) (by kernel_rfl) (by kernel_rfl) (fun _ _ _ h => h) (.inl ⟨by rfl, ?_⟩) (by assumption) ?_
  rotate_left
  · intro W hSw
    (try dsimp only at hSw)
    go_simp
    (try rfl)
  (try simp only [Act.put, List.getElem_toArray, List.getElem_cons_succ, List.getElem_cons_zero, List.setIfInBounds_toArray, List.set_cons_zero, List.set_cons_succ])
  refine wpL_take' (i := 5) (oi := _) (v := ?_) rfl (by kernel_rfl) (by kernel_rfl) (by kernel_rfl) (by kernel_rfl) (fun _ _ _ h => h) (.inl ⟨by rfl, ?_⟩) (by assumption) ?_
  rotate_left
  · intro W hSw
    (try dsimp only at hSw)
    go_simp
    (try rfl)
  (try simp only [Act.put, List.getElem_toArray, List.getElem_cons_succ, List.getElem_cons_zero, List.setIfInBounds_toArray, List.set_cons_zero, List.set_cons_succ])
  refine wpL_take' (i := 6) (oi := _) (v := ?_) rfl (by kernel_rfl) (by kernel_rfl) (by kernel_rfl) (by kernel_rfl) (fun _ _ _ h => h) (.inl ⟨by rfl, ?_⟩) (by assumption) ?_
  rotate_left
  · intro W hSw
    (try dsimp only at hSw)
    go_simp
    (try rfl)
  (try simp only [Act.put, List.getElem_toArray, List.getElem_cons_succ, List.getElem_cons_zero, List.setIfInBounds_toArray, List.set_cons_zero, List.set_cons_succ])
  refine wpL_take' (i := 7) (oi := _) (v := ?_) rfl (by kernel_rfl) (by kernel_rfl) (by kernel_rfl) (by kernel_rfl) (fun _ _ _ h => h) (.inl ⟨by rfl, ?_⟩) (by assumption) ?_
  rotate_left
  · intro W hSw
    (try dsimp only at hSw)
    go_simp
    (try rfl)
  (try simp only [Act.put, List.getElem_toArray, List.getElem_cons_succ, List.getElem_cons_zero, List.setIfInBounds_toArray, List.set_cons_zero, List.set_cons_succ])
  refine wpL_take' (i := 8) (oi := _) (v := ?_) rfl (by kernel_rfl) (by kernel_rfl) (by kernel_rfl) (by kernel_rfl) (fun _ _ _ h => h) (.inl ⟨by rfl, ?_⟩) (by assumption) ?_
  rotate_left
  · intro W hSw
    (try dsimp only at hSw)
    go_simp
    (try rfl)
  (try simp only [Act.put, List.getElem_toArray, List.getElem_cons_succ, List.getElem_cons_zero, List.setIfInBounds_toArray, List.set_cons_zero, List.set_cons_succ])
  refine wpL_ready (rs := [9]) (by kernel_rfl) (by simp) ?_
  refine AllL.cons (o := _) rfl (fun K hK => ?_) AllL.nil
  go_simp
  refine (HTXT.out w2.drew ((Below.refl w2.heap.size w2).drew)).mono ?_
  rintro e w3 ⟨rfl, hb3'⟩
  have hb3 : Below w2.heap.size w2 w3 := undrew hb3'
  have HB3 := Lib.hid hb3
  have hr3 := HR2.out.below hb3 HR2.out.lt
  obtain ⟨x0, x1, _, _⟩ := facts2 hr3
  unfold leafV at x1
  have D1 := Lib.hid (And.intro x0 x1)
  have HR3 := Lib.hid hr3
  have HWC := Lib.hid (twrite_any E.gT E.m E.vD d rd y (Pl.leafText t) w3 (HT2.out.below hb3 HT2.out.lt) (HD2.out.below hb3) (by have : E.m.first + E.m.n ≤ d.secs.length := HW.out.room; omega) HLEN.out)
  clear hb3' hb3 hr3 x0 x1
  go_wp2_with fail
  refine hK.out _ _ ⟨fun _ => trivial, D1.out⟩ (fun hTill => ?_)
  clear hK K
  (try simp only [Act.put, List.getElem_toArray, List.getElem_cons_succ, List.getElem_cons_zero, List.setIfInBounds_toArray, List.set_cons_zero, List.set_cons_succ])
  refine wpL_ready (rs := [10]) (by kernel_rfl) (by simp) ?_
  refine AllL.cons (o := _) rfl (fun K hK => ?_) AllL.nil
  go_simp
  refine HWC.out.mono ?_
  rintro e w4 ⟨hend, hd4, ho4⟩
  have HD4 := Lib.hid hd4
  have HO4 := Lib.hid ho4
  have HK4 := Lib.hid ((HD2.out.below HB3.out).kinds)
  rcases hend with ⟨hal, rfl⟩ | ⟨hal, rfl⟩
  · have HAL := Lib.hid hal
    have hr4 : RefAt w4 r y (leafV bl) := ho4.blk_ HK4.out HR3.out (by decide)
    obtain ⟨x0, x1, _, _⟩ := facts2 hr4
    unfold leafV at x1
    have D2 := Lib.hid (And.intro x0 x1)
    clear hal hd4 ho4 hr4 x0 x1
    go_wp2_with fail
    refine hK.out _ _ ⟨fun _ => trivial, D2.out⟩ (fun hTill => ?_)
    clear hK K
    (try simp only [Act.put, List.getElem_toArray, List.getElem_cons_succ, List.getElem_cons_zero, List.setIfInBounds_toArray, List.set_cons_zero, List.set_cons_succ])
    refine wpL_done (by kernel_rfl) ?_ _
    clear hTill
    go_wp2_with fail
    go_end0
    have hst := settled E gu gx gt b js 0 t (y : Nat) r nx y (leafV bl) (Pl.leafText t) w w1 w3 w4 rd G d S HW.out HR.out HG.out ⟨bl, rfl, HLF.out⟩ HFA.out hy1 h2 hy2 hy3 HS.out HAL.out
      ⟨HY.out, hy2, by
        show (d.change (.wr (E.m.first + y) (Pl.leafText t))).look (E.m.first + y) = _
        rw [tchange_look HAL.out (by have : E.m.first + E.m.n ≤ d.secs.length := HW.out.room; omega), if_pos rfl]
        rfl⟩ rfl (fun j hj => .inl (List.mem_singleton.1 hj)) HO1.out HX1.out (by rw [HW2.out]; exact HB3.out) HD4.out HO4.out
    have hwr := Wrote.one (first := E.m.first) (P := fun j => 2 ≤ j ∧ j ∉ js) d y (Pl.leafText t) ⟨HY.out, hy3⟩
    rw [HAL.out] at hwr
    refine .inl ⟨_, S ++ [y], y + 1, rfl, hst.1, hst.2.1, by omega, by omega, hst.2.2.1, hst.2.2.2.1, hst.2.2.2.2.1, hst.2.2.2.2.2.1, hst.2.2.2.2.2.2, hwr, fun j hj => List.mem_append_left _ hj, fun j hj => ?_⟩
    rcases List.mem_append.1 hj with h | h
    · rcases HS.out j h with h | h
      · exact .inl h
      · exact .inr (by omega)
    · have := List.mem_singleton.1 h
      exact .inr (by omega)
  · have HAL := Lib.hid hal
    clear hal hd4 ho4
    unfold tdied
    go_wp2_with fail
    have hwr := Wrote.one (first := E.m.first) (P := fun j => 2 ≤ j ∧ j ∉ js) d y (Pl.leafText t) ⟨HY.out, hy3⟩
    rw [HAL.out] at hwr
    exact ⟨rfl, .inr ⟨rfl, ⟨_, hwr, HD4.out⟩, (HFR2.out.trans (SFr.of_below HB3.out)).trans ⟨_, HO4.out, HK4.out.spare.mono (by simp [saveT])⟩, HGK2.out.trans ((Gk.of_below HB3.out).trans (Gk.of_disk (HD2.out.below HB3.out) (by have : E.m.first + E.m.n ≤ d.secs.length := HW.out.room; omega) HW.out.low.d HO4.out))⟩⟩
end Go.Proofs.YtljmklohgpaopaaGreatDoor
