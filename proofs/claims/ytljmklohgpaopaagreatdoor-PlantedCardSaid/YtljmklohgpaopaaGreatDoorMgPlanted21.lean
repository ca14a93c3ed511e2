/- A tree: an inner page is written. A tree: settle. A tree: where it may lie. The walk of the log's Reset. A log's state in memory; what is done to it by 'do'; the walk of Reset. The walks of strings.Builder's Write and String, of a builder that the call has made itself. Plain: what an append lays into the sectors, piece by piece. The walk of the log's appending closure. The walk of the log's Append. The walk of the log's scan. The walk of the log's clean. The walk of the opening closure. The walk of the log's Open. The walks of package plain's calls of a log. A tree: plain's Put. A tree: plain's Value. The keys of Lean. A tree: save's parts. A tree: save, up to what is used. -/
import Derived.Test.YtljmklohgpaopaaGreatDoorMgPlanted20
import Derived.Test.YtljmklohgpaopaaGreatDoorMgPlanted6
import Derived.Lib.Builder
import Derived.Lib.UnsafeStr
import Derived.Laws.Externs
import Derived.Test.YtljmklohgpaopaaGreatDoorMgPlanted1
import Derived.Deep.Cut
import Derived.Deep.CutRange
import Derived.Lib.AppendStr
import Derived.Test.YtljmklohgpaopaaGreatDoorMgPlanted4
import Derived.Carry
set_option linter.unusedVariables false
set_option linter.unusedSimpArgs false

namespace Go.Proofs.YtljmklohgpaopaaGreatDoor
open Go.RowKit Go.Maps Go.WideMaps
set_option linter.unusedSectionVars false
variable [Inhabited LoT]

theorem choose_list {α : Type} {P : Nat → α → Prop} : ∀ (N : Nat), (∀ i, i < N → ∃ s, P i s) → ∃ ss : List α, ss.length = N ∧ ∀ i s, ss[i]? = some s → P i s
  | 0, _ => ⟨[], rfl, fun i s h => by cases h⟩
  | N + 1, h => by
    obtain ⟨ss, h1, h2⟩ := choose_list N (fun i hi => h i (by omega))
    obtain ⟨s, hs⟩ := h N (by omega)
    refine ⟨ss ++ [s], by simp [h1], fun i x hx => ?_⟩
    rcases Nat.lt_or_ge i ss.length with hi | hi
    · rw [List.getElem?_append_left hi] at hx
      exact h2 i x hx
    · rw [List.getElem?_append_right hi] at hx
      have hi0 : i - ss.length = 0 := by
        rcases Nat.eq_zero_or_pos (i - ss.length) with h0 | h0
        · exact h0
        · rw [List.getElem?_eq_none (by simp; omega)] at hx; cases hx
      rw [hi0] at hx
      have : s = x := by simpa using hx
      subst this
      have : i = N := by omega
      subst this
      exact hs
theorem Sm_mono {F : Nat → Nat} {j k : Nat} (h : j ≤ k) : Sm F j ≤ Sm F k := by
  induction k with
  | zero => obtain rfl : j = 0 := by omega
            exact Nat.le_refl _
  | succ k ih =>
    rcases Nat.lt_or_ge j (k + 1) with h1 | h1
    · rw [Sm_succ]; have := ih (by omega); omega
    · obtain rfl : j = k + 1 := by omega
      exact Nat.le_refl _
theorem InnerAt.uniq {w : World} {b : Nat} {ks : List Pl.Key} {rs rs' : List Nat} (h : InnerAt w b ks rs) (h' : InnerAt w b ks rs') : rs = rs' := by
  obtain ⟨A, cap, A', cap', hb, _, _, _, hs⟩ := h
  obtain ⟨B, cp, B', cp', hb', _, _, _, hs'⟩ := h'
  have h1 := (hb.cell 1).symm.trans (hb'.cell 1)
  simp only [List.getElem?_cons_zero, List.getElem?_cons_succ, Option.some.injEq] at h1
  injection h1 with e1 e2 e3
  subst e1
  refine List.ext_getElem e2 (fun i hi hi' => ?_)
  obtain ⟨bk, off, e, g⟩ := hs.1.at_ i _ (refs_at (List.getElem?_eq_getElem hi))
  obtain ⟨bk', off', e', g'⟩ := hs'.1.at_ i _ (refs_at (List.getElem?_eq_getElem hi'))
  rw [e] at e'
  injection e' with e'
  injection e' with e4 e5
  subst e4 e5
  rw [g] at g'
  injection g' with g'
  unfold refV at g'
  injection g' with g'
  injection g' with g'
  injection g'
set_option maxRecDepth 100000 in
set_option maxHeartbeats 8000000 in
theorem settle_inner (E : TEnv) (gu gx gt b : Nat) (js : List Nat) (hn : E.m.n ≤ 4096) (h : Nat) (ih : StOk E gu gx gt b js h) (t : Pl.Tr (h + 1)) (r nx bl : Nat) (rs : List Nat) (F : Nat → Nat) (w : World) (rd : Int) (G : Gh) (d : Pl.Dk) (S : List Nat) (hw : TW (E.at_ d S) w rd G) (hG : G r = some ⟨h + 1, t⟩) (hft : Pl.Fit (h + 1) t) (hr : RefAt w r 0 (innerV bl)) (hlf : InnerAt w bl t.1 rs)
    (hrl : rs.length = t.2.length) (hkg : ∀ (i x : Nat) (c : Pl.Tr h), rs[i]? = some x → t.2[i]? = some c → G x = some ⟨h, c⟩) (hkf : ∀ (i x : Nat) (c : Pl.Tr h), rs[i]? = some x → t.2[i]? = some c → FrN w h c x (F i)) (hfa : FAt w gu gx gt E.gT b js nx)
    (hroom : 1 + Sm F rs.length ≤ Pl.freeN nx E.m.n js) (h2 : 2 ≤ nx) (hS : ∀ j ∈ S, j ∈ js ∨ j < nx) :
    Calls Tryz.prog 128 #[.pointer (some ⟨E.gT, 0, none⟩), refV r, .func (.func 129) #[] #[.pointer (some ⟨gu, 0, none⟩), .pointer (some ⟨gx, 0, none⟩), .pointer (some ⟨gt, 0, none⟩)]] w (SPost (h + 1) E gu gx gt b js rd G d S nx (1 + Sm F rs.length) r w) := by
  have HEN := enters_free
  obtain ⟨c0, c1, f0, f1⟩ := facts2 hr
  unfold innerV at c1
  have M1 := Tryz.methodInnerText
  have hm1 : ∀ (b : Nat) (W : World), (Instr.typeAssert (.iface 180 (.pointer (some ⟨b, 0, none⟩))) 166 180 true).run Tryz.prog W = .ok (.tuple #[.pointer (some ⟨b, 0, none⟩), .bool true]) W := fun b W => by kernel_rfl
  have HR := Lib.hid hr
  have HLF := Lib.hid hlf
  have hks := len_le_isz t.1
  have hklen : t.1.length ≤ 60 := by have := hft.2.2.1; omega
  obtain ⟨N, hN⟩ : ∃ n, rs.length = n := ⟨_, rfl⟩
  rw [hN] at hroom hrl ⊢
  have HRL : Hid (rs.length = N) := hN
  have HTL : Hid (t.2.length = N) := hrl.symm
  have hN61 : N ≤ 61 := by have := hft.1; have := HTL.out; omega
  obtain ⟨A, ca, A', ca', hbb, _, _, _, htr⟩ := hlf
  obtain ⟨_, x1, _, _⟩ := facts2 hbb
  rw [hN] at x1
  have HTR := Lib.hid htr
  have HW := Lib.hid hw
  have HG := Lib.hid hG
  have HFT := Lib.hid hft
  have HKG := Lib.hid hkg
  have HKF := Lib.hid hkf
  have HFA := Lib.hid hfa
  have HRM := Lib.hid hroom
  have HS := Lib.hid hS
  have HH2 := Lib.hid h2
  clear hw hG hft hr hkg hkf hfa hroom hS htr hks hklen hrl hN hbb
  unfold refV
  go_enter Tryz.func128, Tryz.ntmps128
  go_wp2_with fail
  go_loopw [29] (fun i wr => ∃ (j : Nat) (d' : Pl.Dk) (S' : List Nat) (nx' : Nat), j ≤ N ∧ i = .int .i64 (j : Int) ∧ Hid (TW (E.at_ d' S') wr rd G) ∧ Hid (FAt wr gu gx gt E.gT b js nx') ∧ Hid (nx ≤ nx') ∧ Hid (Pl.freeN nx E.m.n js ≤ Pl.freeN nx' E.m.n js + Sm F j) ∧ Hid (SFr saveT w wr) ∧ Hid (SRefs w wr) ∧ Hid (KeptUp G h w wr) ∧ Hid (Gk w wr) ∧
      Hid (Wrote E.m.first (fun j => 2 ≤ j ∧ j ∉ js) d d' true) ∧ Hid (∀ j ∈ S, j ∈ S') ∧ Hid (∀ j ∈ S', j ∈ js ∨ j < nx') ∧ Hid (∀ i x, i < j → rs[i]? = some x → ∃ a v, RefAt wr x a v ∧ a ≠ 0)) (fun i _ => N - (intOf i).toNat)
  case atStart => exact ⟨0, d, S, nx, Nat.zero_le _, rfl, HW.out, HFA.out, Nat.le_refl _, Nat.le_add_right _ _, SFr.refl _ _, SRefs.refl _, fun _ _ _ _ _ _ h => h, Gk.refl _, Wrote.refl _ _ _, fun j hj => hj, HS.out, fun i x hi => absurd hi (Nat.not_lt_zero _)⟩
  case round =>
    obtain ⟨j, d', S', nx', hj, rfl, HWr, HFr, HNr, HMr, HSr, HRr, HUr, HVr, HDr, HCr, HBr, HAr⟩ := hrel
    by_cases hjN : j < N
    · obtain ⟨rk, hrk⟩ : ∃ x, rs[j]? = some x := ⟨_, List.getElem?_eq_getElem (by rw [HRL.out]; exact hjN)⟩
      obtain ⟨ck, hck⟩ : ∃ x, t.2[j]? = some x := ⟨_, List.getElem?_eq_getElem (by rw [HTL.out]; exact hjN)⟩
      obtain ⟨bk, ok, rfl, g0⟩ := (HSr.out.tsrc HTR.out (by decide)).1.at_ _ _ (refs_at hrk)
      unfold refV at g0
      obtain ⟨f', hf1, hf2⟩ := FrN.settled (fun v pg hp => HSr.out.pg hp (by decide)) HRr.out h ck rk (F j) (HKF.out j rk ck hrk hck)
      have hsm : Sm F (j + 1) ≤ Sm F N := Sm_mono (by omega)
      rw [Sm_succ] at hsm
      have hih := ih ck rk f' nx' wr rd G d' S' HWr.out (HKG.out j rk ck hrk hck) (Pl.Fit.root h ck (HFT.out.2.2.2.2 ck (List.mem_of_getElem? hck))) hf2 HFr.out (by have := HRM.out; have := HMr.out; omega) (by have := HH2.out; have := HNr.out; omega) HBr.out
      unfold refV at hih
      have HIH := Lib.hid hih
      have HRK := Lib.hid hrk
      have HF1 := Lib.hid hf1
      have q1 : (j : Int) < (N : Int) := by omega
      have hwj : IntKind.i64.wrap ((j : Int) + 1) = (j : Int) + 1 := IntWalk.i64_in _ (by omega)
      clear hrk hck hf1 hf2 hsm hih
      go_wp2_with fail
      refine HIH.out.mono ?_
      rintro e w5 h5
      rcases h5 with ⟨d5, S5, nx5, rfl, hW5, hA5, hn5, hm5, hs5, hr5, hu5, hv5, ha5, hd5, hc5, hb5⟩ | ⟨rfl, ⟨d5, hd5, hk5⟩, hs5, hv5⟩
      rotate_left
      · have HD5 := Lib.hid (HDr.out.trans hd5)
        have HK5 := Lib.hid hk5
        have HS5 := Lib.hid (HSr.out.trans hs5)
        have HV5 := Lib.hid (HVr.out.trans hv5)
        clear hd5 hk5 hs5 hv5
        unfold tdied
        go_wp2_with fail
        exact ⟨rfl, .inr ⟨rfl, ⟨d5, HD5.out, HK5.out⟩, HS5.out, HV5.out⟩⟩
      have H5 := Lib.hid (And.intro hW5 (And.intro hA5 (And.intro hn5 (And.intro hm5 (And.intro hs5 (And.intro hr5 (And.intro hu5 (And.intro hv5 (And.intro ha5 (And.intro hd5 (And.intro hc5 hb5)))))))))))
      clear hW5 hA5 hn5 hm5 hs5 hr5 hu5 hv5 ha5 hd5 hc5 hb5
      go_wp2_with fail
      obtain ⟨hW5, hA5, hn5, hm5, hs5, hr5, hu5, hv5, ha5, hd5, hc5, hb5⟩ := H5.out
      refine ⟨⟨j + 1, d5, S5, nx5, by omega, by go_num, hW5, hA5, Nat.le_trans HNr.out hn5, ?_, HSr.out.trans hs5, HRr.out.trans hr5, fun k x a v hk hx hb => hu5 k x a v hk hx (HUr.out k x a v hk hx hb), HVr.out.trans hv5, HDr.out.trans hd5, fun x hx => hc5 x (HCr.out x hx), hb5, ?_⟩, by simp [intOf]; omega⟩
      · rw [Hid, Sm_succ]; have := HMr.out; have := HF1.out; omega
      · intro i x hi hx
        by_cases hij : i = j
        · subst hij
          rw [HRK.out] at hx
          injection hx with hx
          subst hx
          exact ha5
        · obtain ⟨a, v, g1, g2⟩ := HAr.out i x (by omega) hx
          obtain ⟨a', g3, g4⟩ := hr5 x a v g1
          exact ⟨a', v, g3, by rw [g4 g2]; exact g2⟩
    · obtain rfl : j = N := by omega
      have q1 : decide ((j : Int) < (j : Int)) = false := decide_eq_false (by omega)
      have hfree0 : 1 ≤ Pl.freeN nx' E.m.n js := by have := HRM.out; have := HMr.out; omega
      obtain ⟨y, hy1, hy2, hy3, hy4, hy5⟩ := Pl.freeN_next E.m.n js _ nx' rfl hfree0
      have HFREE := Lib.hid (free_any gu gx gt E.gT b js.length E.m js nx' y wr HFr.out.u HFr.out.x HFr.out.t HWr.out.tree HFr.out.m hy1 hy2 hn hy3 hy4)
      have hrr : RefAt wr r 0 (innerV bl) := HUr.out r _ 0 _ HG.out (Nat.lt_succ_self h) HR.out
      have HRW := Lib.hid hrr
      have HNE : Hid (gx ≠ r) := HFr.out.x.ne hrr (by decide)
      obtain ⟨bl2, ebl, hin⟩ := HSr.out.pg (pg := .inner t.1 rs) ⟨bl, rfl, HLF.out⟩ (by decide)
      obtain rfl : bl = bl2 := by unfold innerV at ebl; injection ebl with _ ebl; injection ebl with ebl; injection ebl with ebl; injection ebl
      have HIN := Lib.hid hin
      have hkids : ∀ i, i < j → ∃ s : Pl.ST h, (∀ x, rs[i]? = some x → ∃ v, RefAt wr x (Pl.top h s) v) ∧ (∀ c, t.2[i]? = some c → Pl.OnD (TEnv.D (E.at_ d' S')) E.m.n h s c) ∧ ∀ q ∈ Pl.secsOf h s, q ∈ S' := by
        intro i hi
        obtain ⟨x, hx⟩ : ∃ x, rs[i]? = some x := ⟨_, List.getElem?_eq_getElem (by rw [HRL.out]; exact hi)⟩
        obtain ⟨c, hc⟩ : ∃ x, t.2[i]? = some x := ⟨_, List.getElem?_eq_getElem (by rw [HTL.out]; exact hi)⟩
        obtain ⟨a, v, g1, g2⟩ := HAr.out i x hi hx
        rcases HWr.out.inv x h c (HKG.out i x c hx hc) with ⟨u, k1, _⟩ | ⟨s, u, k1, k2, k3, _⟩
        · exact absurd (g1.uniq k1).1 g2
        · exact ⟨s, fun x' e => by rw [hx] at e; injection e with e; subst e; exact ⟨u, k1⟩, fun c' e => by rw [hc] at e; injection e with e; subst e; exact k2, k3⟩
      obtain ⟨ss, hss1, hss2⟩ := choose_list j hkids
      have HS1 := Lib.hid hss1
      have HS2 := Lib.hid hss2
      clear hrr hin hkids hss1 hss2 hfree0 x1 c0 c1 f0 f1
      go_wp2_with fail
      refine HFREE.out.mono ?_
      rintro e w1 ⟨rfl, ho1, hx1⟩
      have hr1 : RefAt w1 r 0 (innerV bl) := ho1.blk HRW.out (fun e => HNE.out e.symm)
      obtain ⟨d0, d1, g0, g1⟩ := facts2 hr1
      unfold innerV at d1
      obtain ⟨w2, hw2⟩ : ∃ x, w1.setCell ⟨r, 0, none⟩ (.int .i64 (y : Nat)) = x := ⟨_, rfl⟩
      have ho2 : Only (· = r) w1 w2 := by rw [← hw2]; exact (Only.refl (· = r) w1).setCell (p := ⟨r, 0, none⟩) (.inl rfl) _
      have hr2 : RefAt w2 r y (innerV bl) := by rw [← hw2]; exact hr1.set_ 0 _
      have hk1 := one_kinds HFr.out.x
      have hk2 := one_kinds hr1
      have hin2 : InnerAt w2 bl t.1 rs := (HIN.out.only ho1 hk1 (by decide) (by decide) (by decide)).only ho2 hk2 (by decide) (by decide) (by decide)
      have hats : AtsAre w2 rs (ss.map (Pl.top h)) := by
        refine ⟨by rw [List.length_map, HS1.out, HRL.out], fun i x a hx ha => ?_⟩
        rw [List.getElem?_map] at ha
        cases hs : ss[i]? with
        | none => rw [hs] at ha; cases ha
        | some s =>
          rw [hs] at ha
          injection ha with ha
          subst ha
          obtain ⟨k1, k2, _⟩ := HS2.out i s hs
          obtain ⟨v, k3⟩ := k1 x hx
          have hil : i < t.2.length := by rw [HTL.out, ← HRL.out]; exact (List.getElem?_eq_some_iff.1 hx).1
          have hb := (k2 _ (List.getElem?_eq_getElem hil)).bounds
          have hxr : x ≠ r := fun e => by
            subst e
            have := (k3.uniq HRW.out).1
            omega
          exact ⟨v, ho2.blk (ho1.blk_ hk1 k3 (by decide)) hxr⟩
      have hle : ∀ a ∈ ss.map (Pl.top h), a ≤ 4096 := by
        intro a ha
        obtain ⟨s, hs, rfl⟩ := List.mem_map.1 ha
        obtain ⟨i, hi⟩ := List.mem_iff_getElem?.1 hs
        have hil : i < t.2.length := by rw [HTL.out, ← HS1.out]; exact (List.getElem?_eq_some_iff.1 hi).1
        have hb := ((HS2.out i s hi).2.1 _ (List.getElem?_eq_getElem hil)).bounds
        omega
      have hl9 : (ss.map (Pl.top h)).length = t.1.length + 1 := by rw [List.length_map, HS1.out, ← HTL.out]; exact HFT.out.1
      have HL9 := Lib.hid hl9
      have hT2 : TmAt w2 E.gT E.m := (ho1.blk_ hk1 HWr.out.tree (by decide) |> fun h => ho2.blk_ hk2 h (by decide))
      have hd2 : DiskAt w2 E.m.g E.vD d' rd := (HWr.out.disk.only_ ho1 hk1 (by decide) (by decide)).only_ ho2 hk2 (by decide) (by decide)
      have hgk2 : Gk wr w2 := (Gk.of1 HFr.out.x rfl HFr.out.low ho1).trans (Gk.of1 hr1 rfl (HWr.out.low.g _ _ HG.out) ho2)
      have hfr2 : SFr saveT w w2 := HSr.out.trans (SFr.trans ⟨_, ho1, hk1.spare.mono (by simp [saveT])⟩ ⟨_, ho2, hk2.spare.mono (by simp [saveT])⟩)
      obtain ⟨x0, x1, _, _⟩ := facts2 hr2
      unfold innerV at x1
      have D0 := Lib.hid (And.intro x0 x1)
      have HR2 := Lib.hid hr2
      have HT2 := Lib.hid hT2
      have HD2 := Lib.hid hd2
      have HFR2 := Lib.hid hfr2
      have HGK2 := Lib.hid hgk2
      have HX1 := Lib.hid hx1
      have HO1 := Lib.hid ho1
      have HTXT := Lib.hid (fun W hW => itext_any bl t.1 rs (ss.map (Pl.top h)) W (hin2.below hW) (by have := HFT.out.2.2.1; omega) (fun k hk => by have := (HFT.out.2.2.2.1 k hk).2; omega) (by have := len_le_isz t.1; have := HFT.out.2.2.1; omega) (by rw [HRL.out, ← HTL.out]; exact HFT.out.1) (hats.below hW) hle)
      have HY : Hid (2 ≤ y) := Nat.le_trans (Nat.le_trans h2 HNr.out) hy1
      have HW2 := Lib.hid hw2
      obtain ⟨txt, htxt⟩ : ∃ x, Pl.innerText t.1 (ss.map (Pl.top h)) = x := ⟨_, rfl⟩
      have HLEN : Hid (txt.length ≤ 256) := by rw [Hid, ← htxt, Pl.innerText_len hl9]; exact HFT.out.2.2.1
      have HTX := Lib.hid htxt
      rw [htxt] at HTXT
      clear hr1 d1 g1 ho1 hx1 ho2 hr2 hk1 hk2 hin2 hats hle hl9 hT2 hd2 hfr2 hgk2 x0 x1 HFREE htxt
      go_wp2_with fail
      clear d0 g0
      refine wp_region_L 10 (fun _ => True) (fun W => W.cell? ⟨r, 0, none⟩ = some (.int .i64 (y : Nat)) ∧ W.cell? ⟨r, 1, none⟩ = some (.iface 180 (.pointer (some ⟨bl, 0, none⟩)))) (by kernel_rfl) trivial D0.out (fun hTill => ?_)
      refine wpL_take' (i := 0) (oi := _) (v := ?_) rfl (by kernel_rfl) (by kernel_rfl) (by kernel_rfl) (by kernel_rfl) (fun _ _ _ h => h) (.inl ⟨by rfl, ?_⟩) (by assumption) ?_
      rotate_left
      · intro W hSw
        (try dsimp only at hSw)
        go_simp
        (try rfl)
      (try simp only [Act.put, List.getElem_toArray, List.getElem_cons_succ, List.getElem_cons_zero, List.setIfInBounds_toArray, List.set_cons_zero, List.set_cons_succ])
      refine wpL_take' (i := 1) (oi := _) (v := ?_) rfl (by kernel_rfl) (by kernel_rfl) (by kernel_rfl) (by kernel_rfl) (fun _ _ _ h => h) (.inl ⟨by rfl, ?_⟩) (by assumption) ?_
      rotate_left
      · intro W hSw
        (try dsimp only at hSw)
        go_simp
        (try rfl)
      (try simp only [Act.put, List.getElem_toArray, List.getElem_cons_succ, List.getElem_cons_zero, List.setIfInBounds_toArray, List.set_cons_zero, List.set_cons_succ])
      refine wpL_take' (i := 2) (oi := _) (v := ?_) rfl (by kernel_rfl) (by kernel_rfl) (by kernel_rfl) (by kernel_rfl) (fun _ _ _ h => h) (.inl ⟨by rfl, ?_⟩) (by assumption) ?_
      rotate_left
      · intro W hSw
        (try dsimp only at hSw)
        go_simp
        (try rfl)
      (try simp only [Act.put, List.getElem_toArray, List.getElem_cons_succ, List.getElem_cons_zero, List.setIfInBounds_toArray, List.set_cons_zero, List.set_cons_succ])
      refine wpL_take' (i := 3) (oi := _) (v := ?_) rfl (by kernel_rfl) (by kernel_rfl) (by kernel_rfl) (by kernel_rfl) (fun _ _ _ h => h) (.inl ⟨by rfl, ?_⟩) (by assumption) ?_
      rotate_left
      · intro W hSw
        (try dsimp only at hSw)
        go_simp
        (try rfl)
      (try simp only [Act.put, List.getElem_toArray, List.getElem_cons_succ, List.getElem_cons_zero, List.setIfInBounds_toArray, List.set_cons_zero, List.set_cons_succ])
      refine wpL_take' (i := 4) (oi := _) (v := ?_) rfl (by kernel_rfl) (by kernel_rfl) (by kernel_rfl) (by kernel_rfl) (fun _ _ _ h => h) (.inl ⟨by rfl, ?_⟩) (by assumption) ?_
      rotate_left
      · intro W hSw
        (try dsimp only at hSw)
        go_simp
        (try rfl)
      (try simp only [Act.put, List.getElem_toArray, List.getElem_cons_succ, List.getElem_cons_zero, List.setIfInBounds_toArray, List.set_cons_zero, List.set_cons_succ])
      refine wpL_take' (i := 5) (oi := _) (v := ?_) rfl (by kernel_rfl) (by kernel_rfl) (by kernel_rfl) (by kernel_rfl) (fun _ _ _ h => h) (.inl ⟨by rfl, ?_⟩) (by assumption) ?_
      rotate_left
      · intro W hSw
        (try dsimp only at hSw)
        go_simp
        (try rfl)
      (try simp only [Act.put, List.getElem_toArray, List.getElem_cons_succ, List.getElem_cons_zero, List.setIfInBounds_toArray, List.set_cons_zero, List.set_cons_succ])
      refine wpL_take' (i := 6) (oi := _) (v := ?_) rfl (by kernel_rfl) (by kernel_rfl) (by kernel_rfl) (by kernel_rfl) (fun _ _ _ h => h) (.inl ⟨by rfl, ?_⟩) (by assumption) ?_
      rotate_left
      · intro W hSw
        (try dsimp only at hSw)
        go_simp
        (try rfl)
      (try simp only [Act.put, List.getElem_toArray, List.getElem_cons_succ, List.getElem_cons_zero, List.setIfInBounds_toArray, List.set_cons_zero, List.set_cons_succ])
      refine wpL_take' (i := 7) (oi := _) (v := ?_) rfl (by kernel_rfl) (by kernel_rfl) (by kernel_rfl) (by kernel_rfl) (fun _ _ _ h => h) (.inl ⟨by rfl, ?_⟩) (by assumption) ?_
      rotate_left
      · intro W hSw
        (try dsimp only at hSw)
        go_simp
        (try rfl)
      (try simp only [Act.put, List.getElem_toArray, List.getElem_cons_succ, List.getElem_cons_zero, List.setIfInBounds_toArray, List.set_cons_zero, List.set_cons_succ])
      refine wpL_take' (i := 8) (oi := _) (v := ?_) rfl (by kernel_rfl) (by kernel_rfl) (by kernel_rfl) (by kernel_rfl) (fun _ _ _ h => h) (.inl ⟨by rfl, ?_⟩) (by assumption) ?_
      rotate_left
      · intro W hSw
        (try dsimp only at hSw)
        go_simp
        (try rfl)
      (try simp only [Act.put, List.getElem_toArray, List.getElem_cons_succ, List.getElem_cons_zero, List.setIfInBounds_toArray, List.set_cons_zero, List.set_cons_succ])
      refine wpL_ready (rs := [9]) (by kernel_rfl) (by simp) ?_
      refine AllL.cons (o := _) rfl (fun K hK => ?_) AllL.nil
      go_simp
      refine (HTXT.out w2.drew ((Below.refl w2.heap.size w2).drew)).mono ?_
      rintro e w3 ⟨rfl, hb3'⟩
      have hb3 : Below w2.heap.size w2 w3 := undrew hb3'
      have HB3 := Lib.hid hb3
      have hr3 := HR2.out.below hb3 HR2.out.lt
      obtain ⟨x0, x1, _, _⟩ := facts2 hr3
      unfold innerV at x1
      have D1 := Lib.hid (And.intro x0 x1)
      have HR3 := Lib.hid hr3
      have HWC := Lib.hid (twrite_any E.gT E.m E.vD d' rd y txt w3 (HT2.out.below hb3 HT2.out.lt) (HD2.out.below hb3) (by have : E.m.first + E.m.n ≤ d'.secs.length := HWr.out.room; omega) HLEN.out)
      clear hb3' hb3 hr3 x0 x1
      go_wp2_with fail
      refine hK.out _ _ ⟨fun _ => trivial, D1.out⟩ (fun hTill => ?_)
      clear hK K
      (try simp only [Act.put, List.getElem_toArray, List.getElem_cons_succ, List.getElem_cons_zero, List.setIfInBounds_toArray, List.set_cons_zero, List.set_cons_succ])
      refine wpL_ready (rs := [10]) (by kernel_rfl) (by simp) ?_
      refine AllL.cons (o := _) rfl (fun K hK => ?_) AllL.nil
      go_simp
      refine HWC.out.mono ?_
      rintro e w4 ⟨hend, hd4, ho4⟩
      have HD4 := Lib.hid hd4
      have HO4 := Lib.hid ho4
      have HK4 := Lib.hid ((HD2.out.below HB3.out).kinds)
      rcases hend with ⟨hal, rfl⟩ | ⟨hal, rfl⟩
      · have HAL := Lib.hid hal
        have hr4 : RefAt w4 r y (innerV bl) := ho4.blk_ HK4.out HR3.out (by decide)
        obtain ⟨x0, x1, _, _⟩ := facts2 hr4
        unfold innerV at x1
        have D2 := Lib.hid (And.intro x0 x1)
        clear hal hd4 ho4 hr4 x0 x1
        go_wp2_with fail
        refine hK.out _ _ ⟨fun _ => trivial, D2.out⟩ (fun hTill => ?_)
        clear hK K
        (try simp only [Act.put, List.getElem_toArray, List.getElem_cons_succ, List.getElem_cons_zero, List.setIfInBounds_toArray, List.set_cons_zero, List.set_cons_succ])
        refine wpL_done (by kernel_rfl) ?_ _
        clear hTill
        go_wp2_with fail
        go_end0
        have hst := settled E gu gx gt b js (h + 1) t ((y, ss) : Nat × List (Pl.ST h)) r nx' y (innerV bl) txt wr w1 w3 w4 rd G d' S' HWr.out HRW.out HG.out ⟨rs, ⟨bl, rfl, HIN.out⟩, HRL.out.trans HTL.out.symm, HKG.out, fun s hs i x a hx ha => by injection hs with hs; subst hs; exact (HS2.out i a ha).1 x hx⟩ HFr.out hy1 (Nat.le_trans h2 HNr.out) hy2 hy3 HBr.out HAL.out
          ⟨HY.out, hy2, by
            show (d'.change (.wr (E.m.first + y) txt)).look (E.m.first + y) = _
            rw [tchange_look HAL.out (by have : E.m.first + E.m.n ≤ d'.secs.length := HWr.out.room; omega), if_pos rfl, ← HTX.out]
            rfl, HS1.out.trans HTL.out.symm, fun i a c ha hc => Pl.OnD.congr _ _ _ (fun q hq => by
              show (d'.change (.wr (E.m.first + y) txt)).look (E.m.first + q) = d'.look (E.m.first + q)
              have hne : ¬ E.m.first + y = E.m.first + q := fun e => by
                have : y = q := by omega
                subst this
                rcases HBr.out _ ((HS2.out i a ha).2.2 _ hq) with h | h
                · exact hy3 h
                · omega
              rw [tchange_look HAL.out (by have : E.m.first + E.m.n ≤ d'.secs.length := HWr.out.room; omega), if_neg hne]) ((HS2.out i a ha).2.1 c hc)⟩ rfl (fun q hq => by
            rcases List.mem_cons.1 hq with h | h
            · exact .inl h
            · obtain ⟨a, ha, hqa⟩ := List.mem_flatMap.1 h
              obtain ⟨i, hi⟩ := List.mem_iff_getElem?.1 ha
              exact .inr ((HS2.out i a hi).2.2 q hqa)) HO1.out HX1.out (by rw [HW2.out]; exact HB3.out) HD4.out HO4.out
        have hwr := Wrote.one (first := E.m.first) (P := fun j => 2 ≤ j ∧ j ∉ js) d' y txt ⟨HY.out, hy3⟩
        rw [HAL.out] at hwr
        refine .inl ⟨_, S' ++ [y], y + 1, rfl, hst.1, hst.2.1, by have := HNr.out; omega, by have := HMr.out; omega, HSr.out.trans hst.2.2.1, HRr.out.trans hst.2.2.2.1, fun k x a v hk hx hb => hst.2.2.2.2.1 k x a v hk hx (HUr.out k x a v hk (by omega) hb), HVr.out.trans hst.2.2.2.2.2.1, hst.2.2.2.2.2.2, HDr.out.trans hwr, fun q hq => List.mem_append_left _ (HCr.out q hq), fun q hq => ?_⟩
        rcases List.mem_append.1 hq with h | h
        · rcases HBr.out q h with h | h
          · exact .inl h
          · exact .inr (by omega)
        · have := List.mem_singleton.1 h
          exact .inr (by omega)
      · have HAL := Lib.hid hal
        clear hal hd4 ho4
        unfold tdied
        go_wp2_with fail
        have hwr := Wrote.one (first := E.m.first) (P := fun j => 2 ≤ j ∧ j ∉ js) d' y txt ⟨HY.out, hy3⟩
        rw [HAL.out] at hwr
        exact ⟨rfl, .inr ⟨rfl, ⟨_, HDr.out.trans hwr, HD4.out⟩, (HFR2.out.trans (SFr.of_below HB3.out)).trans ⟨_, HO4.out, HK4.out.spare.mono (by simp [saveT])⟩, HVr.out.trans (HGK2.out.trans ((Gk.of_below HB3.out).trans (Gk.of_disk (HD2.out.below HB3.out) (by have : E.m.first + E.m.n ≤ d'.secs.length := HWr.out.room; omega) HWr.out.low.d HO4.out)))⟩⟩
end Go.Proofs.YtljmklohgpaopaaGreatDoor

namespace Go.Proofs.YtljmklohgpaopaaGreatDoor
open Go.RowKit Go.Maps Go.WideMaps
set_option linter.unusedSectionVars false
variable [Inhabited LoT]

theorem Inv.top_le {w : World} {G : Gh} {D : Nat → Option (List UInt8)} {n : Nat} {S : List Nat} (hi : Inv w G D n S) {r h a : Nat} {t : Pl.Tr h} {v : Value} (hG : G r = some ⟨h, t⟩) (hr : RefAt w r a v) : a ≤ 4294967296 + n ∧ (a = 0 → PgOk w G v h t none) := by
  rcases hi r h t hG with ⟨u, h1, h2⟩ | ⟨s, u, h1, h2, _⟩
  · obtain ⟨e1, e2⟩ := h1.uniq hr
    subst e2
    exact ⟨by omega, fun _ => h2⟩
  · obtain ⟨e1, e2⟩ := h1.uniq hr
    have := h2.bounds
    exact ⟨by omega, fun h0 => by omega⟩
theorem settle_any (E : TEnv) (gu gx gt b : Nat) (js : List Nat) (hn : E.m.n ≤ 4096) : ∀ h, StOk E gu gx gt b js h
  | 0 => fun t r f nx w rd G d S hw hG hft hf hfa hfl h2 hS => by
    obtain ⟨a, v, hr, hc⟩ := hf
    obtain ⟨hle, hpg⟩ := hw.inv.top_le hG hr
    rcases hc with ⟨h0, rfl⟩ | ⟨rfl, rfl⟩
    · exact settle_off E gu gx gt b js 0 t r 0 nx a v w rd G d S hw hr h0 hle hn hfa hS
    · obtain ⟨bl, rfl, hlf⟩ := hpg rfl
      exact settle_leaf E gu gx gt b js hn t r nx bl w rd G d S hw hG hft hr hlf hfa hfl h2 hS (Nat.le_trans (Nat.le_of_eq (Pl.leafText_len t)) hft.1)
  | h + 1 => fun t r f nx w rd G d S hw hG hft hf hfa hfl h2 hS => by
    obtain ⟨a, v, hr, hc⟩ := hf
    obtain ⟨hle, hpg⟩ := hw.inv.top_le hG hr
    rcases hc with ⟨h0, rfl⟩ | ⟨rfl, rs, F, hp, hl, rfl, hk⟩
    · exact settle_off E gu gx gt b js (h + 1) t r 0 nx a v w rd G d S hw hr h0 hle hn hfa hS
    · obtain ⟨bl, rfl, hin⟩ := hp
      obtain ⟨rs', ⟨bl', e, hin'⟩, _, hkg, _⟩ := hpg rfl
      obtain rfl : bl = bl' := by unfold innerV at e; injection e with _ e; injection e with e; injection e with e; injection e
      obtain rfl := hin.uniq hin'
      exact settle_inner E gu gx gt b js hn h (settle_any E gu gx gt b js hn h) t r nx bl rs F w rd G d S hw hG hft hr hin hl hkg (fun i x c hx hc => hk i x c hx hc) hfa hfl h2 hS
end Go.Proofs.YtljmklohgpaopaaGreatDoor

namespace Go.Proofs.YtljmklohgpaopaaGreatDoor
open Go.RowKit
set_option linter.unusedSectionVars false
variable [Inhabited LoT]

set_option maxHeartbeats 1000000 in
theorem tplaced_any (g : Nat) (v : Value) (d : Pl.Dk) (rd : Int) (first n : Nat) (w : World) (h : DiskAt w g v d rd) (h1 : 16 ≤ n) (h2 : first + n ≤ d.secs.length) :
    Calls Tryz.prog 76 #[.pointer (some ⟨g, 0, none⟩), .int .i64 (first : Nat), .int .i64 (n : Nat)] w fun e w' => e = .returned (.bool true) ∧ w = w' := by
  have hm := h.most
  have H := Lib.hid (sectors_any g v d rd w h)
  obtain ⟨m, hm'⟩ : ∃ m, d.secs.length = m := ⟨_, rfl⟩
  rw [hm'] at hm H h2
  have e1 : decide ((n : Int) ≥ 16) = true := decide_eq_true (by omega)
  have e2 : decide ((first : Int) ≥ 0) = true := decide_eq_true (by omega)
  have e3 : decide ((first : Int) ≤ (m : Int)) = true := decide_eq_true (by omega)
  have e4 : decide ((n : Int) ≤ (m : Int) - (first : Int)) = true := decide_eq_true (by omega)
  have q1 : (16 : Int) ≤ (n : Int) := by omega
  have q2 : (0 : Int) ≤ (first : Int) := by omega
  have q3 : (first : Int) ≤ (m : Int) := by omega
  have q4 : (n : Int) ≤ (m : Int) - (first : Int) := by omega
  have hw : IntKind.i64.wrap ((m : Int) - (first : Int)) = (m : Int) - (first : Int) := IntWalk.i64_in _ (by omega)
  clear hm' h
  go_enter Tryz.func76, Tryz.ntmps76
  go_wp2_with fail
  refine H.out.mono ?_
  rintro e w' ⟨rfl, rfl⟩
  go_wp2_with fail
  refine H.out.mono ?_
  rintro e w' ⟨rfl, rfl⟩
  go_wp2_with fail
  go_ret
  exact ⟨by first | rfl | simp [q4], rfl⟩
end Go.Proofs.YtljmklohgpaopaaGreatDoor

namespace Go.Proofs.YtljmklohgpaopaaGreatDoor
open Go.RowKit

end Go.Proofs.YtljmklohgpaopaaGreatDoor

namespace Go.Proofs.YtljmklohgpaopaaGreatDoor
open Go.RowKit

end Go.Proofs.YtljmklohgpaopaaGreatDoor

namespace Go.Proofs.YtljmklohgpaopaaGreatDoor
open Go.RowKit

end Go.Proofs.YtljmklohgpaopaaGreatDoor

namespace Go.Proofs.YtljmklohgpaopaaGreatDoor
namespace Pl

end Pl
end Go.Proofs.YtljmklohgpaopaaGreatDoor

namespace Go.Proofs.YtljmklohgpaopaaGreatDoor
open Go.RowKit

end Go.Proofs.YtljmklohgpaopaaGreatDoor

namespace Go.Proofs.YtljmklohgpaopaaGreatDoor
open Go.RowKit

end Go.Proofs.YtljmklohgpaopaaGreatDoor

namespace Go.Proofs.YtljmklohgpaopaaGreatDoor
open Go.RowKit

theorem look_sized {w : World} {g : Nat} {v : Value} {d : Pl.Dk} {rd : Int} (h : DiskAt w g v d rd) {i : Nat} {s : List UInt8} (hs : d.look i = some s) : s.length = 256 := by
  unfold Pl.Dk.look at hs
  split at hs
  · next x hx =>
    split at hs
    · cases hs
    · rw [← Option.some.inj hs]
      exact (h.sized x (List.mem_of_getElem? hx)).1
  · cases hs

theorem Only.of_grown_own {w w' : World} {vb : Value} (h : w.grownBy w' vb.ownBlock) : Only (fun x => vb.ownBlock = some x) w w' := ⟨h.os, h.tape, h.output, h.size, fun k hk hn => h.block k hk (fun e => hn e.symm)⟩
end Go.Proofs.YtljmklohgpaopaaGreatDoor

namespace Go.Proofs.YtljmklohgpaopaaGreatDoor
open Go.RowKit

namespace Pl
end Pl

end Go.Proofs.YtljmklohgpaopaaGreatDoor

namespace Go.Proofs.YtljmklohgpaopaaGreatDoor
open Go.RowKit

namespace Pl
end Pl

end Go.Proofs.YtljmklohgpaopaaGreatDoor

namespace Go.Proofs.YtljmklohgpaopaaGreatDoor
open Go.RowKit

end Go.Proofs.YtljmklohgpaopaaGreatDoor

namespace Go.Proofs.YtljmklohgpaopaaGreatDoor
open Go.RowKit

end Go.Proofs.YtljmklohgpaopaaGreatDoor

namespace Go.Proofs.YtljmklohgpaopaaGreatDoor
open Go.RowKit
set_option linter.unusedSectionVars false
variable [Inhabited LoT]

theorem ChQ.only {E : TEnv} {n : Nat} {rd : Int} {G : Gh} {x : Pl.Any} {none_ : Prop} {b : Bool} {w : World} {k : Nat} {w' w'' : World} {F : Nat → Prop} (h : ChQ E n rd G x none_ b w k w') (ho : Only F w' w'') (hk : Kinds F w' [28]) (hF : ∀ x, x < w.heap.size → ¬ F x) (hT : Typ w E.gT 158) : ChQ E n rd G x none_ b w k w'' := by
  obtain ⟨h0, h1⟩ := h
  refine ⟨h0.since ho (fun x hx hf => absurd hf (hF x hx)) hT, ?_⟩
  rcases h1 with ⟨e, G', rd', r', fr, h1, h2, h3, h4, h5⟩ | ⟨e, G', rd', fr, h1, h2⟩ | ⟨e, h1, ⟨rd', h2⟩, h3⟩ | ⟨e, h0', G', rd', h1, h2⟩
  · exact .inl ⟨e, G', rd', r', fr, h1.only ho hk (by decide) (by decide) (by decide) (by decide) (by decide), h2, h3, h4.only ho hk (by decide) (by decide), h5⟩
  · exact .inr (.inl ⟨e, G', rd', fr, h1.only ho hk (by decide) (by decide) (by decide) (by decide) (by decide), h2⟩)
  · exact .inr (.inr (.inl ⟨e, h1, ⟨rd', h2.only_ ho hk (by decide) (by decide)⟩, ho.blk_ hk h3 (by decide)⟩))
  · exact .inr (.inr (.inr ⟨e, h0', G', rd', h1.only ho hk (by decide) (by decide) (by decide) (by decide) (by decide), h2⟩))
theorem GE.tft {gT : Nat} {m : Tm} {w w' : World} (h : GE w) (hT : TmAt w gT m) (hf : TFt gT w w') : GE w' := by
  refine hf.ev _ _ (fun e => ?_) rfl h
  have h1 : w.cell? ⟨gT, 0, none⟩ = some (.pointer (some ⟨m.g, 0, none⟩)) := hT.cell 0
  dsimp only at e
  subst e
  have h2 := h1.symm.trans h
  cases h2
theorem ChQ.kind {E : TEnv} {n : Nat} {rd : Int} {G : Gh} {x : Pl.Any} {none_ : Prop} {b : Bool} {w : World} {k : Nat} {w' : World} (h : ChQ E n rd G x none_ b w k w') : k ≤ 8 := by
  obtain ⟨_, ⟨e, _⟩ | ⟨e, _⟩ | ⟨e, _⟩ | ⟨e, _⟩⟩ := h <;> omega
set_option maxRecDepth 100000 in
set_option maxHeartbeats 2000000 in
theorem pput_any (E : TEnv) (A B : Option Addr) (ca cb : Nat) (key v : Pl.Key) (hkf : Pl.KeyFit key) (hvf : v.length ≤ 100) (hn : E.m.n ≤ 4096) (hpg : E.m.pages ≤ 4096) (hbad : E.m.bad = false) (h : Nat) (t : Pl.Tr h) (w : World) (rd : Int) (G : Gh) (hw : TW E w rd G) (hG : G E.m.root = some ⟨h, t⟩) (hok : Pl.RootOk ⟨h, t⟩) (hh : h ≤ 62)
    (hpgs : Pl.pgs (Pl.newRoot (Pl.putL key v) key ⟨h, t⟩).1 (Pl.newRoot (Pl.putL key v) key ⟨h, t⟩).2 ≤ 50000) (hev : EvAt w) (hge : GE w) (hA : BytesAt w A key) (hB : BytesAt w B v) :
    Calls Tryz.prog 21 #[.pointer (some ⟨E.gT, 0, none⟩), .slice A key.length ca, .slice B v.length cb] w fun e w' => ∃ k : Nat, e = .returned (errA (k : Nat) ⟨#[]⟩) ∧ ChQ E (2 * (h + 1)) rd G (Pl.newRoot (Pl.putL key v) key ⟨h, t⟩) False true w k w' := by
  have hb0 : Below w.heap.size w (w.alloc err0) := (Below.refl _ _).alloc (Nat.le_refl _) _
  have HC := Lib.hid (tput_any E A B ca cb key v hkf hvf hn hpg hbad h t (w.alloc err0) rd G (hw.below hb0) hG hok hh hpgs (hev.tfr (TFr.of_below hb0)) (hA.keep hb0) (hB.keep hb0))
  have BE : Hid (Blk (w.alloc err0) w.heap.size 28 [.int .i64 0, .string ⟨#[]⟩, .bool false]) := Blk.new w 28 _
  have HG0 := Lib.hid (hge.below hb0)
  have HT0 : Hid (TmAt (w.alloc err0) E.gT E.m) := (hw.below hb0).tree
  have HTY : Hid (Typ w E.gT 158) := hw.tree.typ
  have HB0 := Lib.hid hb0
  obtain ⟨x, hx⟩ : ∃ x, Pl.newRoot (Pl.putL key v) key ⟨h, t⟩ = x := ⟨_, rfl⟩
  rw [hx] at HC ⊢
  obtain ⟨nk, hnk⟩ : ∃ x, key.length = x := ⟨_, rfl⟩
  obtain ⟨nv, hnv⟩ : ∃ x, v.length = x := ⟨_, rfl⟩
  rw [hnk, hnv] at HC ⊢
  clear hw hG hok hpgs hev hge hA hB hb0 hx hnk hnv
  go_enter Tryz.func21, Tryz.ntmps21
  go_wp2_with fail
  refine HC.out.mono ?_
  rintro e w2 ⟨k, rfl, hq⟩
  have HQ := Lib.hid hq
  have hk8 := hq.kind
  have HG2 := Lib.hid (HG0.out.tft HT0.out hq.1)
  have BE2 := Lib.hid (hq.1.blk BE.out (by decide))
  clear hq
  go_wp2_with fail
  refine (told_any _ _ ⟨#[]⟩ _ HG2.out (errK_err _ _) (by omega)).mono ?_
  rintro e w3 ⟨rfl, hb3⟩
  have BE3 := Lib.hid (BE2.out.below hb3 BE2.out.lt)
  obtain ⟨c0, c1, c2, f0, f1, f2⟩ := facts3 BE3.out
  have HB3 := Lib.hid hb3
  clear hb3
  go_wp2_with fail
  refine bodyPost_ret (v := errA _ ⟨#[]⟩) (results_err1 rfl rfl (BE3.out.set3 _ _ _)) rfl ⟨k, rfl, ?_⟩
  have hq1 : ChQ E (2 * (h + 1)) rd G x False true w k w2 := ⟨(TFr.of_below HB0.out).tft.trans HQ.out.1, HQ.out.2⟩
  have hq2 := hq1.only (Only.of_below HB3.out (fun _ => False)) (fun _ h => h.elim) (fun _ _ h => h) HTY.out
  have ho : Only (· = w.heap.size) w3 w3 := Only.refl _ _
  exact hq2.only (((ho.setCell (p := ⟨w.heap.size, 0, none⟩) (.inl rfl) _).setCell (p := ⟨w.heap.size, 1, none⟩) (.inl rfl) _).setCell (p := ⟨w.heap.size, 2, none⟩) (.inl rfl) _) (one_kinds BE3.out) (fun x hx e => by omega) HTY.out
end Go.Proofs.YtljmklohgpaopaaGreatDoor

namespace Go.Proofs.YtljmklohgpaopaaGreatDoor
open Go.RowKit
set_option linter.unusedSectionVars false
variable [Inhabited LoT]

end Go.Proofs.YtljmklohgpaopaaGreatDoor

namespace Go.Proofs.YtljmklohgpaopaaGreatDoor
open Go.RowKit
set_option linter.unusedSectionVars false
variable [Inhabited LoT]

end Go.Proofs.YtljmklohgpaopaaGreatDoor

namespace Go.Proofs.YtljmklohgpaopaaGreatDoor
open Go.RowKit Go.Maps Go.WideMaps
set_option linter.unusedSectionVars false
variable [Inhabited LoT]

theorem UsedAt.len {w : World} {b k : Nat} {js : List Nat} (h : UsedAt w b k js) (n : Nat) (hn : ∀ j ∈ js, j < n) (ty : TypeId) : (Builtin.len_ #[234] ty #[.map (some b)]).run Tryz.prog w = .ok (.int .i64 ((Pl.dcount n js : Nat) : Int)) w := by
  obtain ⟨D, hown, _, h4, _⟩ := h
  rw [← h4 n hn]
  exact hown.len Tryz.underlying234 ty
/-- The text of a slot. -/
def slotT (seq at_ pages : Nat) : List UInt8 := 84 :: (Pl.be 8 seq ++ Pl.be 4 at_ ++ Pl.be 4 pages)
/-- So many sectors does a tree take. -/
theorem Pl.secs_len {D : Nat → Option (List UInt8)} {n : Nat} : (h : Nat) → (s : Pl.ST h) → (t : Pl.Tr h) → Pl.OnD D n h s t → (Pl.secsOf h s).length = Pl.pgs h t
  | 0, _, _, _ => rfl
  | h + 1, s, t, hD => by
    obtain ⟨a, xs⟩ := s
    obtain ⟨ks, cs⟩ := t
    obtain ⟨-, -, -, hl, hk⟩ := hD
    dsimp only at hl hk
    show (a :: xs.flatMap (Pl.secsOf h)).length = 1 + (cs.map (Pl.pgs h)).sum
    rw [List.length_cons, Nat.add_comm]
    congr 1
    clear ks a
    induction xs generalizing cs with
    | nil => cases cs with
      | nil => rfl
      | cons c cs => simp at hl
    | cons x xs ih =>
      cases cs with
      | nil => simp at hl
      | cons c cs =>
        rw [List.flatMap_cons, List.length_append, List.map_cons, List.sum_cons, Pl.secs_len h x c (hk 0 x c rfl rfl)]
        rw [ih cs (by simpa using hl) (fun i a c' ha hc => hk (i + 1) a c' (by simpa using ha) (by simpa using hc))]
/-- Refs that were led to pages still count as many that are not written. -/
theorem FrN.u {w w' : World} (hp : ∀ v pg, PgAt w v pg → PgAt w' v pg) (hr : URefs w w') : ∀ (h : Nat) (t : Pl.Tr h) (r f : Nat), FrN w h t r f → FrN w' h t r f
  | 0, t, r, f, ⟨a, v, h1, h2⟩ => by obtain ⟨v', h3, _⟩ := hr r a v h1; exact ⟨a, v', h3, h2⟩
  | h + 1, t, r, f, ⟨a, v, h1, h2⟩ => by
    obtain ⟨v', h3, h4⟩ := hr r a v h1
    refine ⟨a, v', h3, ?_⟩
    rcases h2 with h2 | ⟨h2, rs, F, h5, h6, h7, h8⟩
    · exact .inl h2
    · have hv : v' = v := by
        rcases h4 with h4 | h4
        · exact h4
        · subst h4
          obtain ⟨b, e, _⟩ := h5
          cases e
      subst hv
      exact .inr ⟨h2, rs, F, hp _ _ h5, h6, h7, fun j x c hx hc => FrN.u hp hr h c x (F j) (h8 j x c hx hc)⟩
theorem Inv.disk {w : World} {G : Gh} {D D' : Nat → Option (List UInt8)} {n : Nat} {S : List Nat} (hi : Inv w G D n S) (hD : ∀ j, 2 ≤ j → D' j = D j) : Inv w G D' n S := fun r h t hG => by
  rcases hi r h t hG with h1 | ⟨s, v, h1, h2, h3, h4⟩
  · exact .inl h1
  · exact .inr ⟨s, v, h1, h2.congr _ _ _ (fun j hj => hD j (h2.all _ _ _ j hj).1), h3, h4⟩
theorem look_sync (d : Pl.Dk) (j : Nat) : (d.change .sy).look j = d.look j := by
  unfold Pl.Dk.change
  split
  · exact Pl.look_sy d.secs (d.tick).life j
  · rfl
theorem look_off (d : Pl.Dk) (i j : Nat) (t : List UInt8) (hij : i ≠ j) : (d.change (.wr i t)).look j = d.look j := by
  unfold Pl.Dk.change
  split
  · show Pl.Dk.look ⟨Pl.Ch.on (.wr i t) d.secs, _⟩ j = _
    unfold Pl.Dk.look
    simp only [Pl.Ch.on, List.getElem?_modify, if_neg hij]
    cases d.secs[j]? <;> rfl
  · rfl
theorem live_change {d : Pl.Dk} (h : d.alive = true) (c : Pl.Ch) : (d.change c).life ≠ 0 := by
  unfold Pl.Dk.change
  rw [if_pos h]
  show (d.tick).life ≠ 0
  have := of_decide_eq_true h
  unfold Pl.Dk.tick
  dsimp only
  split <;> omega
theorem slotT_len (seq at_ pages : Nat) : (slotT seq at_ pages).length = 17 := by simp [slotT, Pl.be_length]
end Go.Proofs.YtljmklohgpaopaaGreatDoor

namespace Go.Proofs.YtljmklohgpaopaaGreatDoor
open Go.RowKit Go.Maps Go.WideMaps
set_option linter.unusedSectionVars false
variable [Inhabited LoT]

/-- What was saved last: its sectors. -/
def SavedAt (E : TEnv) (w : World) (G : Gh) (js : List Nat) : Prop :=
  (E.m.saved = none ∧ js = [] ∧ E.m.pages = 0) ∨ ∃ rs hs ts ss v, E.m.saved = some rs ∧ G rs = some ⟨hs, ts⟩ ∧ Pl.RootOk ⟨hs, ts⟩ ∧ hs ≤ 62 ∧ RefAt w rs (Pl.top hs ss) v ∧ Pl.OnD E.D E.m.n hs ss ts ∧ js = Pl.secsOf hs ss ∧ E.m.pages = Pl.dcount E.m.n js
structure SvIn (E : TEnv) (w : World) (rd : Int) (G : Gh) (h : Nat) (t : Pl.Tr h) (fr : Nat) (js : List Nat) : Prop where
  tw : TW E w rd G
  root : G E.m.root = some ⟨h, t⟩
  ok : Pl.RootOk ⟨h, t⟩
  hh : h ≤ 62
  fresh : FrN w h t E.m.root fr
  fit : fr + E.m.pages + 2 ≤ E.m.n
  n : E.m.n ≤ 4096
  saved : SavedAt E w G js
  ev : EvAt w
  S : ∀ j ∈ E.S, j ∈ js
  len : js.length ≤ 20000
  seq : E.m.seq + 1 < 18446744073709551616
  pg : Pl.pgs h t ≤ 20000
theorem SvIn.low {E : TEnv} {w : World} {rd : Int} {G : Gh} {h : Nat} {t : Pl.Tr h} {fr : Nat} {js : List Nat} (s : SvIn E w rd G h t fr js) : (∀ j ∈ js, 2 ≤ j ∧ j < E.m.n) ∧ E.m.pages = Pl.dcount E.m.n js := by
  rcases s.saved with ⟨_, rfl, h2⟩ | ⟨rs, hs, ts, ss, v, _, _, _, _, _, h6, rfl, h8⟩
  · refine ⟨fun j hj => absurd hj (List.not_mem_nil), ?_⟩
    rw [h2]
    simp [Pl.dcount]
  · exact ⟨fun j hj => ⟨(Pl.OnD.all hs ss ts h6 j hj).1, (Pl.OnD.all hs ss ts h6 j hj).2.1⟩, h8⟩
theorem SvIn.room {E : TEnv} {w : World} {rd : Int} {G : Gh} {h : Nat} {t : Pl.Tr h} {fr : Nat} {js : List Nat} (s : SvIn E w rd G h t fr js) : fr ≤ Pl.freeN 2 E.m.n js := by
  have h1 := Pl.free_used (fun j hj => (s.low.1 j hj).1) E.m.n
  have h2 := s.low.2
  have h3 := s.fit
  omega
def saveT2 : List TypeId := saveT ++ [158]
/-- Syncs, and writes into sectors that are free. -/
def FreeW (first : Nat) (js : List Nat) (l : List Pl.Ch) : Prop := ∀ c ∈ l, c = .sy ∨ ∃ j x, c = .wr (first + j) x ∧ 2 ≤ j ∧ j ∉ js
theorem FreeW.of_wrote {first : Nat} {js : List Nat} {l : List Pl.Ch} (h : ∀ c ∈ l, ∃ j x, c = .wr (first + j) x ∧ 2 ≤ j ∧ j ∉ js) : FreeW first js l := fun c hc => .inr (h c hc)
theorem FreeW.sy {first : Nat} {js : List Nat} {l : List Pl.Ch} (h : FreeW first js l) : FreeW first js (l ++ [.sy]) := fun c hc => (List.mem_append.1 hc).elim (h c) (fun h => .inl (List.mem_singleton.1 h))
theorem run_snoc {d d' : Pl.Dk} {l : List Pl.Ch} (h : d.run l = (d', true)) (c : Pl.Ch) : d.run (l ++ [c]) = (d'.change c, d'.alive) := by
  rw [Pl.Dk.run_append, h]
  show d'.run [c] = _
  rw [Pl.Dk.run_cons]
  cases d'.alive <;> simp [Pl.Dk.run_nil]
def Tm.sv (m : Tm) (p : Nat) : Tm := { m with saved := some m.root, seq := m.seq + 1, pages := p }
def TEnv.sv (E : TEnv) (d : Pl.Dk) (S : List Nat) (p : Nat) : TEnv := ⟨E.gT, E.m.sv p, E.vD, d, S⟩
/-- How save ends. -/
def SvPost (E : TEnv) (rd : Int) (G : Gh) (h : Nat) (t : Pl.Tr h) (js : List Nat) (w : World) (e : Ending) (w' : World) : Prop :=
  SFr saveT2 w w' ∧ Gk w w' ∧
  ((e = tdied 3 ∧ TmAt w' E.gT E.m ∧ ∃ l d' rd', FreeW E.m.first js l ∧ (E.d.life = 0 ∧ d' = E.d ∨ E.d.run l = (d', false)) ∧ DiskAt w' E.m.g E.vD d' rd') ∨
   ∃ l d1 d2 ok s rd', FreeW E.m.first js l ∧ E.d.run (l ++ [.sy]) = (d1, true) ∧ Pl.OnD (fun j => d1.look (E.m.first + j)) E.m.n h s t ∧
     d1.run [.wr (E.m.first + (E.m.seq + 1) % 2) (slotT (E.m.seq + 1) (Pl.top h s) (Pl.dcount E.m.n (Pl.secsOf h s))), .sy] = (d2, ok) ∧ TEnds ok 3 e ∧ DiskAt w' E.m.g E.vD d2 rd' ∧ (ok = false → TmAt w' E.gT E.m) ∧
     (ok = true → ∃ S' G' v, TW (E.sv d2 S' (Pl.dcount E.m.n (Pl.secsOf h s))) w' rd' G' ∧ Ext G G' ∧ RdK 100000 rd rd' ∧ RefAt w' E.m.root (Pl.top h s) v ∧ ∀ j ∈ Pl.secsOf h s, j ∈ S'))
theorem TW.dk {E : TEnv} {d d2 : Pl.Dk} {S : List Nat} {rd : Int} {G : Gh} {w w' : World} (hw : TW (E.at_ d S) w rd G) (hd : DiskAt w' E.m.g E.vD d2 rd) (ho : Only (dF E.m.g E.vD) w w') (hl : ∀ j, 2 ≤ j → d2.look (E.m.first + j) = d.look (E.m.first + j)) (hs : d2.secs.length = d.secs.length) : TW (E.at_ d2 S) w' rd G := by
  have hk := hw.disk.kinds
  have hro : E.m.first + E.m.n ≤ d.secs.length := hw.room
  exact ⟨ho.blk_ hk hw.tree (by decide), hd, (hw.inv.only ho hk (by decide) (by decide)).disk hl, by show E.m.first + E.m.n ≤ d2.secs.length; rw [hs]; exact hro, ⟨hw.low.g, hw.low.d, hw.low.t⟩⟩
theorem TW.saved {E : TEnv} {d : Pl.Dk} {S : List Nat} {rd : Int} {G : Gh} {w w' : World} {p : Nat} (hw : TW (E.at_ d S) w rd G) (ho : Only (· = E.gT) w w') (ht : TmAt w' E.gT (E.m.sv p)) : TW (E.sv d S p) w' rd G := by
  have hk : Kinds (· = E.gT) w [158] := one_kinds hw.tree
  exact ⟨ht, hw.disk.only_ ho hk (by decide) (by decide), hw.inv.only ho hk (by decide) (by decide), hw.room, ⟨hw.low.g, hw.low.d, hw.low.t⟩⟩
end Go.Proofs.YtljmklohgpaopaaGreatDoor
