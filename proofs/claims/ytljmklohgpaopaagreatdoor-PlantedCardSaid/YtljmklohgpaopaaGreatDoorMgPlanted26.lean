/- A tree: walk. A tree: Scan. A tree: Scan as a whole. A tree: plain's Pairs. The small functions of the harness; how many reads a disk had. -/
import Derived.Test.YtljmklohgpaopaaGreatDoorMgPlanted25
import Derived.Test.YtljmklohgpaopaaGreatDoorMgPlanted4
import Derived.Test.YtljmklohgpaopaaGreatDoorMgPlanted5
set_option linter.unusedVariables false
set_option linter.unusedSimpArgs false

namespace Go.Proofs.YtljmklohgpaopaaGreatDoor
open Go.RowKit
set_option linter.unusedSectionVars false
variable [Inhabited LoT]

theorem place_nil : ∀ ps : List Pl.Pr, Pl.placeOf ps [] = 0
  | [] => rfl
  | p :: ps => by
    unfold Pl.placeOf
    rw [List.takeWhile_cons, if_neg (by simp)]
    rfl
theorem way_nil {ks : List Pl.Key} (h : ∀ k ∈ ks, Pl.KeyFit k) : Pl.wayOf ks [] = 0 := by
  unfold Pl.wayOf
  cases ks with
  | nil => rfl
  | cons k ks =>
    have h1 := (h k (by simp)).1
    have h2 : k ≠ [] := fun e => by rw [e] at h1; simp at h1
    rw [List.takeWhile_cons, if_neg (by simp [h2])]
    rfl
def wkT : List TypeId := [168, 102, 127, 129]
/-- What becomes of memory while pairs are told. -/
def WkFr (w w' : World) : Prop := SFr wkT w w' ∧ URefs w w' ∧ Gk w w'
theorem WkFr.trans {a b c : World} (h : WkFr a b) (k : WkFr b c) : WkFr a c := ⟨h.1.trans k.1, h.2.1.trans k.2.1, h.2.2.trans k.2.2⟩
theorem TFr.wk {w w' : World} (h : TFr w w') : WkFr w w' := ⟨h.sfr.mono (by simp [wkT]), h.ufr.2.1, h.ufr.gk⟩
theorem WkFr.of_below {w w' : World} (h : Below w.heap.size w w') : WkFr w w' := (TFr.of_below h).wk
theorem WkFr.refl (w : World) : WkFr w w := .of_below (Below.refl _ _)
theorem Gk.of_low {F : Nat → Prop} {w w' : World} {base : Nat} (h1 : 0 < base) (h2 : 1 < base) (hlo : LO ≤ base) (hF : ∀ k, F k → base ≤ k) (ho : Only F w w') : Gk w w' := by
  have n1 : ¬ F 0 := fun hf => Nat.not_lt.2 (hF _ hf) h1
  have n2 : ¬ F 1 := fun hf => Nat.not_lt.2 (hF _ hf) h2
  exact ⟨fun x => ⟨ho.cell x.1 n1, ho.cell x.2.1 n1, ho.cell x.2.2 n1⟩, fun x => ho.cell x n2, ho.mono (fun x _ hx => Nat.le_trans hlo (hF x hx))⟩
theorem ScFr.wk {base : Nat} {w w' : World} (h1 : 0 < base) (h2 : 1 < base) (hlo : LO ≤ base) (h : ScFr base w w') : WkFr w w' := by
  obtain ⟨F, ho, hk, hl⟩ := h
  exact ⟨⟨F, ho, hk.spare.mono (by simp [wkT])⟩, fun r a v hr => ⟨v, ho.blk_ hk hr (by decide), .inl rfl⟩, Gk.of_low h1 h2 hlo hl ho⟩
theorem ScFr.tw {base : Nat} {w w' : World} {E : TEnv} {rd : Int} {G : Gh} (h : ScFr base w w') (ht : TW E w rd G) : TW E w' rd G := by
  obtain ⟨F, ho, hk, hl⟩ := h
  exact ht.only ho hk (by decide) (by decide) (by decide) (by decide) (by decide)
theorem ScAt.tfr {w w' : World} {go gm base many : Nat} {acc : List Pl.Pr} (h : ScAt w go gm base many acc) (hf : TFr w w') : ScAt w' go gm base many acc := by
  obtain ⟨F, ho, hk⟩ := hf.only
  exact h.only ho hk (by decide) (by decide) (by decide) (by decide)
theorem ScAt.lt {w : World} {go gm base many : Nat} {acc : List Pl.Pr} (h : ScAt w go gm base many acc) : go < w.heap.size := by
  obtain ⟨v, h1, _⟩ := h.out
  exact h1.lt
/-- How walk ends. -/
def WkPost (E : TEnv) (go gm base many : Nat) (G : Gh) (acc ps : List Pl.Pr) (w : World) (e : Ending) (w' : World) : Prop :=
  ∃ G' rd', e = .returned (.bool (decide ((acc ++ ps).length < many))) ∧ TW E w' rd' G' ∧ Ext G G' ∧ ScAt w' go gm base many ((acc ++ ps).take many) ∧ WkFr w w'
theorem wk_end0 {E : TEnv} {go gm base many : Nat} {G G2 : Gh} {acc : List Pl.Pr} {w w' : World} {rd : Int} (h1 : acc.length < many) (h2 : TW E w' rd G2) (h3 : Ext G G2) (h4 : ScAt w' go gm base many acc) (h5 : WkFr w w') : WkPost E go gm base many G acc [] w (.returned (.bool true)) w' :=
  ⟨G2, rd, by rw [List.append_nil, decide_eq_true h1], h2, h3, by rw [List.append_nil, List.take_of_length_le (by omega)]; exact h4, h5⟩
def scanF (go gm : Nat) : Value := .func (.func 143) #[] #[.pointer (some ⟨go, 0, none⟩), .pointer (some ⟨gm, 0, none⟩)]
def WkOk (E : TEnv) (go gm base many h : Nat) : Prop :=
  ∀ (t : Pl.Tr h) (r deep : Nat) (lo : Pl.Key) (hi : Option Pl.Key) (w : World) (rd : Int) (G : Gh) (acc : List Pl.Pr), TW E w rd G → G r = some ⟨h, t⟩ → Pl.PFit (decide (deep = 0)) h t → Pl.Spn h lo hi t → deep + h ≤ 64 →
    ScAt w go gm base many acc → acc.length < many → acc.length + (Pl.prs h t).length ≤ 100000 →
    Calls Tryz.prog 142 #[.pointer (some ⟨E.gT, 0, none⟩), refV r, spanV lo hi, .int .i64 (deep : Nat), .string (tstr []), scanF go gm] w (WkPost E go gm base many G acc (Pl.prs h t) w)
theorem enters_scan11 (args : Array Value) (W : World) : (callFunc 143 args).run Tryz.prog W = .ok (.enter 143 args) W := by simp [go_sem]
set_option maxRecDepth 100000 in
set_option maxHeartbeats 8000000 in
theorem walk_page (E : TEnv) (go gm base many : Nat) (hn : E.m.n ≤ 4096) (hl : E.d.life ≠ 0) (hgo : base ≤ go) (h1 : 0 < base) (h2 : 1 < base) (hlo : LO ≤ base) (hm : many ≤ 100000) (h : Nat) (ih : ∀ h', h = h' + 1 → WkOk E go gm base many h') : WkOk E go gm base many h := by
  intro t r deep lo hi w rd G acc hw hG hft hs hd hsc hac hlen
  obtain ⟨sl, hsl⟩ : ∃ s, tstr lo = s := ⟨_, rfl⟩
  obtain ⟨sh, hsh⟩ : ∃ s, tstr (hi.getD []) = s := ⟨_, rfl⟩
  obtain ⟨bn, hbn⟩ : ∃ b, hi.isNone = b := ⟨_, rfl⟩
  have es : spanV lo hi = .agg #[.string sl, .string sh, .bool bn] := by unfold spanV; rw [hsl, hsh, hbn]
  have ES := Lib.hid es
  obtain ⟨gs, hgs⟩ : ∃ g, w.heap.size = g := ⟨_, rfl⟩
  obtain ⟨w1, hw1⟩ : ∃ x, w.alloc (.cells #[.string sl, .string sh, .bool bn] 178) = x := ⟨_, rfl⟩
  have hbl : Below w.heap.size w w1 := by rw [← hw1]; exact (Below.refl _ _).alloc (Nat.le_refl _) _
  have B1 : Blk w1 gs 178 [.string sl, .string sh, .bool bn] := by rw [← hw1, ← hgs]; exact Blk.new w 178 _
  have HPG := Lib.hid (page_any E r h deep t lo hi w1 rd G (hw.below hbl) hG hft hs (by omega) hn)
  rw [es] at HPG ⊢
  unfold refV at HPG ⊢
  unfold scanF
  have BS1 := Lib.hid B1
  have HF1 := Lib.hid (WkFr.of_below hbl)
  have HSC1 := Lib.hid (hsc.below hbl)
  have HFT := Lib.hid hft
  have HSP := Lib.hid hs
  have HAC := Lib.hid (And.intro hac hlen)
  have HL := Lib.hid hl
  obtain ⟨e0, e1, e2, _, _, _⟩ := facts3' B1
  have HEN := enters_scan11
  have hmL1 : ∀ (b : Nat) (W : World), (Instr.typeAssert (.iface 161 (.pointer (some ⟨b, 0, none⟩))) 166 161 true).run Tryz.prog W = .ok (.tuple #[.pointer (some ⟨b, 0, none⟩), .bool true]) W := fun b W => by kernel_rfl
  have hmI1 : ∀ (b : Nat) (W : World), (Instr.typeAssert (.iface 180 (.pointer (some ⟨b, 0, none⟩))) 166 161 true).run Tryz.prog W = .ok (.tuple #[.pointer none, .bool false]) W := fun b W => by kernel_rfl
  have hmI2 : ∀ (b : Nat) (W : World), (Instr.typeAssert (.iface 180 (.pointer (some ⟨b, 0, none⟩))) 166 180 true).run Tryz.prog W = .ok (.tuple #[.pointer (some ⟨b, 0, none⟩), .bool true]) W := fun b W => by kernel_rfl
  clear hw hG hft hs hsc hac hlen hl hbl B1 es hsl hsh hbn
  go_enter Tryz.func142, Tryz.ntmps142
  go_wp2_with fail
  refine HPG.out.mono ?_
  rintro e w2 h2'
  rcases h2' with ⟨v2, G2, rd2, rfl, hW2, hE2, hT2, _, hP2, _, _⟩ | ⟨hal, _⟩
  rotate_left
  · exact absurd hal HL.out
  have HW2 := Lib.hid hW2
  have HE2 := Lib.hid hE2
  have HF2 : Hid (WkFr w w2) := HF1.out.trans hT2.wk
  have HSC2 := Lib.hid (HSC1.out.tfr hT2)
  have BS2 := Lib.hid (hT2.blk BS1.out (by decide) (by decide))
  clear hW2 hE2 hT2 e0 e1 e2
  cases h with
  | zero =>
    obtain ⟨ps, hps⟩ : ∃ ps : List Pl.Pr, ps = t := ⟨t, rfl⟩
    subst hps
    obtain ⟨b, rfl, hlf⟩ := hP2
    have hlen0 : ps.length ≤ 300 := by have h5 := len_le_lsz ps; have h9 := Pl.PFit.root HFT.out; have := h9.1; omega
    have HPL := Lib.hid (place_any b ps [] w2 hlf HSP.out.1 (by omega))
    rw [show Pl.placeOf ps [] = 0 from place_nil ps] at HPL
    have HLFA := Lib.hid hlf
    have HAC' : Hid (acc.length < many ∧ acc.length + ps.length ≤ 100000) := HAC.out
    clear hlf
    unfold leafV
    go_wp2_with fail
    refine HPL.out.mono ?_
    rintro e w3 ⟨rfl, hb3⟩
    have HW3 := Lib.hid (HW2.out.below hb3)
    have HF3 := Lib.hid (HF2.out.trans (WkFr.of_below hb3))
    have HSC3 := Lib.hid (HSC2.out.below hb3)
    obtain ⟨A, ca, hbl, hca, hs3⟩ := HLFA.out.below hb3
    obtain ⟨n, hnl⟩ : ∃ x, List.length ps = x := ⟨_, rfl⟩
    rw [hnl] at hbl hca hlen0
    obtain ⟨f0, _⟩ := facts1 hbl
    have HS3 := Lib.hid hs3
    have HN := Lib.hid hnl
    clear hb3 hbl hs3 hnl
    by_cases hn0 : n = 0
    · subst hn0
      have ht0 : ps = [] := List.length_eq_zero_iff.1 HN.out
      subst ht0
      rcases A with _ | a
      all_goals
        by_cases hcap : ca = 0
        · subst hcap
          go_wp2_with fail
          go_loopw [41] (fun i wr => i = .int .i64 (0 : Int) ∧ w3 = wr) (fun _ _ => 0)
          case atStart => exact ⟨rfl, rfl⟩
          case round =>
            obtain ⟨rfl, rfl⟩ := hrel
            go_wp2_with fail
            go_ret
            exact wk_end0 HAC.out.1 HW3.out HE2.out HSC3.out HF3.out
        · go_wp2_with fail
          go_loopw [41] (fun i wr => i = .int .i64 (0 : Int) ∧ w3 = wr) (fun _ _ => 0)
          case atStart => exact ⟨rfl, rfl⟩
          case round =>
            obtain ⟨rfl, rfl⟩ := hrel
            go_wp2_with fail
            go_ret
            exact wk_end0 HAC.out.1 HW3.out HE2.out HSC3.out HF3.out
    · obtain ⟨b2, off, rfl⟩ := HS3.out.at2 (by rw [HN.out]; omega)
      have q3 : (n : Int) ≤ (ca : Int) := by omega
      have hca0 : ¬ ca = 0 := by omega
      go_wp2_with fail
      go_loopw [41] (fun i wr => ∃ k : Nat, k ≤ n ∧ i = .int .i64 (k : Int) ∧ Hid (acc.length + k < many) ∧ Hid (TW E wr rd2 G2) ∧ Hid (WkFr w wr) ∧ Hid (ScAt wr go gm base many (acc ++ ps.take k)) ∧ Hid (TSrc wr (some ⟨b2, off, none⟩) (prsCells ps) 175)) (fun i _ => n - (intOf i).toNat)
      case atStart => exact ⟨0, Nat.zero_le _, rfl, HAC'.out.1, HW3.out, HF3.out, by simp only [List.take_zero, List.append_nil]; exact HSC3.out, HS3.out⟩
      case round =>
        obtain ⟨k, hk, rfl, HM, HWr, HFr, HSCr, HTr⟩ := hrel
        by_cases hkn : k < n
        · obtain ⟨p, hp⟩ : ∃ x, ps[k]? = some x := ⟨_, List.getElem?_eq_getElem (by rw [HN.out]; exact hkn)⟩
          have at_ := flat_at (f := prCells) (s := 2) (fun _ => rfl) ps k p hp
          obtain ⟨b3, o3, e3, g0⟩ := HTr.out.1.at_ _ _ (at_ 0 (by omega))
          have g1 := HTr.out.1.cell _ _ (at_ 1 (by omega))
          obtain ⟨rfl, rfl⟩ : b2 = b3 ∧ off = o3 := by injection e3 with e3; injection e3 with e3 e5 _; exact ⟨e3, e5⟩
          rw [← Nat.add_assoc] at g1
          rw [Nat.add_zero] at g0
          have q1 : (k : Int) < (n : Int) := by omega
          have hwk : IntKind.i64.wrap ((k : Int) + 1) = (k : Int) + 1 := IntWalk.i64_in _ (by omega)
          have hszp : p.key.length ≤ 1000 ∧ p.val.length ≤ 1000 := by
            have h1 := psz_le_lsz (List.mem_of_getElem? hp)
            have h2 := Pl.PFit.root HFT.out
            have h3 := h2.1
            unfold Pl.psz at h1
            omega
          have htk : ps.take (k + 1) = ps.take k ++ [p] := by rw [List.take_add_one, hp]; rfl
          have hlk : (acc ++ ps.take k).length = acc.length + k := by rw [List.length_append, List.length_take, HN.out]; omega
          obtain ⟨g6, hg6⟩ : ∃ g, wr.heap.size = g := ⟨_, rfl⟩
          obtain ⟨w4, hw4⟩ : ∃ x, wr.alloc (.cells #[.string (tstr p.key), .string (tstr p.val)] 175) = x := ⟨_, rfl⟩
          have B4 : Blk w4 g6 175 [.string (tstr p.key), .string (tstr p.val)] := by rw [← hw4, ← hg6]; exact Blk.new wr 175 _
          have hb4 : Below wr.heap.size wr w4 := by rw [← hw4]; exact (Below.refl _ _).alloc (Nat.le_refl _) _
          have HSCA := Lib.hid (scan11_any go gm base many (acc ++ ps.take k) p w4 (HSCr.out.below hb4) hgo (by have := HSCr.out.lt; have := hb4.size; omega) hszp (by have := HAC'.out.2; have := HN.out; omega) hm)
          have HF4 := Lib.hid (HFr.out.trans (WkFr.of_below hb4))
          have HW4 := Lib.hid (HWr.out.below hb4)
          have HT4 := Lib.hid (HTr.out.below hb4)
          obtain ⟨y0, y1, _, _⟩ := facts2 B4
          have HTK := Lib.hid htk
          have HLK := Lib.hid hlk
          clear at_ e3 hszp htk hlk B4 hb4 hp
          go_wp2_with fail
          refine HSCA.out.mono ?_
          rintro e w5 ⟨rfl, hs5, hf5⟩
          have HW5 := Lib.hid (hf5.tw HW4.out)
          have HF5 := Lib.hid (HF4.out.trans (hf5.wk h1 h2 hlo))
          have HS5 : Hid (ScAt w5 go gm base many (acc ++ ps.take (k + 1))) := by
            have h9 : acc ++ ps.take (k + 1) = acc ++ ps.take k ++ [p] := by rw [HTK.out, List.append_assoc]
            rw [h9]; exact hs5
          have HT5 : Hid (TSrc w5 (some ⟨b2, off, none⟩) (prsCells ps) 175) := by
            obtain ⟨F, ho, hk, _⟩ := hf5
            exact HT4.out.only ho hk (by decide)
          rw [HLK.out]
          clear hs5 hf5
          by_cases hlt : acc.length + k + 1 < many
          · have hd : decide (acc.length + k + 1 < many) = true := decide_eq_true hlt
            rw [hd]
            have HLT : Hid (acc.length + (k + 1) < many) := by show _ < _; omega
            clear hd hlt
            go_wp2_with fail
            exact ⟨⟨k + 1, by omega, by go_num, HLT.out, HW5.out, HF5.out, HS5.out, HT5.out⟩, by simp [intOf]; omega⟩
          · have hd : decide (acc.length + k + 1 < many) = false := decide_eq_false hlt
            rw [hd]
            have HLT := Lib.hid hlt
            have HKN := Lib.hid hkn
            clear hd hlt
            go_wp2_with fail
            go_ret
            have hM := HM.out
            have hlt := HLT.out
            have hln := HN.out
            refine ⟨G2, rd2, ?_, HW5.out, HE2.out, ?_, HF5.out⟩
            · have h9 : ¬ (acc ++ ps).length < many := by rw [List.length_append]; omega
              show _ = Ending.returned (.bool (decide ((acc ++ ps).length < many)))
              rw [decide_eq_false h9]
              rfl
            · have h8 : (acc ++ ps).take many = acc ++ ps.take (k + 1) := by
                rw [List.take_append, List.take_of_length_le (by omega), show many - acc.length = k + 1 by omega]
              show ScAt w5 go gm base many ((acc ++ ps).take many)
              rw [h8]
              exact HS5.out
        · obtain rfl : k = n := by omega
          have q1 : decide ((k : Int) < (k : Int)) = false := decide_eq_false (by omega)
          go_wp2_with fail
          go_ret
          have hM := HM.out
          have hln := HN.out
          have h8 : acc ++ ps.take k = acc ++ ps := by rw [List.take_of_length_le (by omega)]
          have h9 : (acc ++ ps).length < many := by rw [List.length_append]; omega
          refine ⟨G2, rd2, ?_, HWr.out, HE2.out, ?_, HFr.out⟩
          · show _ = Ending.returned (.bool (decide ((acc ++ ps).length < many)))
            rw [decide_eq_true h9]
            rfl
          · show ScAt wr go gm base many ((acc ++ ps).take many)
            rw [List.take_of_length_le (by omega), ← h8]
            exact HSCr.out
  | succ h =>
    obtain ⟨tt, htt⟩ : ∃ x : List Pl.Key × List (Pl.Tr h), x = t := ⟨t, rfl⟩
    subst htt
    obtain ⟨rs, ⟨bi, rfl, hi2⟩, hrl, hgk, _⟩ := hP2
    have hfit : Pl.Fit (h + 1) tt := Pl.PFit.root HFT.out
    have hks := len_le_isz tt.1
    have hklen : tt.1.length ≤ 60 := by have := hfit.2.2.1; omega
    obtain ⟨N, hN⟩ : ∃ n, rs.length = n := ⟨_, rfl⟩
    have HRL : Hid (rs.length = N) := hN
    have HTL : Hid (tt.2.length = N) := hrl.symm.trans hN
    have HKL : Hid (tt.1.length + 1 = N ∧ tt.1.length ≤ 1000) := ⟨by have := hfit.1; have := HTL.out; omega, by omega⟩
    have hN61 : N ≤ 61 := by have := HKL.out.1; omega
    have hwn0 : Pl.wayOf tt.1 [] = 0 := way_nil hfit.2.2.2.1
    have HWY := Lib.hid (way_any bi tt.1 rs [] w2 hi2 (Pl.SpnK.keys HSP.out).1 (by omega))
    rw [hwn0] at HWY
    have HGK := Lib.hid hgk
    have HFI := Lib.hid hfit
    have HI2 := Lib.hid hi2
    clear hfit hks hklen hrl hgk hN hi2 hwn0
    unfold innerV
    go_wp2_with fail
    refine HWY.out.mono ?_
    rintro e w3 ⟨rfl, hb3⟩
    have HW3 := Lib.hid (HW2.out.below hb3)
    have HF3 := Lib.hid (HF2.out.trans (WkFr.of_below hb3))
    have HSC3 := Lib.hid (HSC2.out.below hb3)
    have BS3 := Lib.hid (BS2.out.below hb3 BS2.out.lt)
    have HPG3 : Hid (PgAt w3 (innerV bi) (.inner tt.1 rs)) := ⟨bi, rfl, HI2.out.below hb3⟩
    clear hb3
    go_wp2_with fail
    go_loopw [19] (fun i wr => ∃ (k : Nat) (G' : Gh) (rd' : Int), k ≤ N ∧ i = .int .i64 (k : Int) ∧ Hid ((acc ++ (tt.2.take k).flatMap (Pl.prs h)).length < many) ∧ Hid (TW E wr rd' G') ∧ Hid (Ext G2 G') ∧ Hid (WkFr w3 wr) ∧ Hid (ScAt wr go gm base many (acc ++ (tt.2.take k).flatMap (Pl.prs h)))) (fun i _ => N - (intOf i).toNat)
    case atStart => exact ⟨0, G2, rd2, Nat.zero_le _, rfl, (by simp only [List.take_zero, List.flatMap_nil, List.append_nil]; exact HAC.out.1), HW3.out, Ext.refl _, WkFr.refl _, by simp only [List.take_zero, List.flatMap_nil, List.append_nil]; exact HSC3.out⟩
    case round =>
      obtain ⟨k, G', rd', hk, rfl, HM, HWr, HEr, HFr, HSCr⟩ := hrel
      have hpg := HFr.out.1.pg HPG3.out (by decide)
      obtain ⟨bi', ebi, hir⟩ := hpg
      obtain rfl : bi = bi' := by unfold innerV at ebi; injection ebi with _ ebi; injection ebi with ebi; injection ebi with ebi; injection ebi
      obtain ⟨A, ca, A', ca', hbb, _, _, _, htr⟩ := id hir
      rw [HRL.out] at hbb
      have x1 : wr.cell? ⟨bi, 1, none⟩ = some (.slice A' N ca') := hbb.cell 1
      by_cases hkN : k < N
      · obtain ⟨rk, hrk⟩ : ∃ x, rs[k]? = some x := ⟨_, List.getElem?_eq_getElem (by rw [HRL.out]; exact hkN)⟩
        obtain ⟨ck, hck⟩ : ∃ x, tt.2[k]? = some x := ⟨_, List.getElem?_eq_getElem (by rw [HTL.out]; exact hkN)⟩
        have hcfit := HFI.out.2.2.2.2 ck (List.mem_of_getElem? hck)
        have hcs := Pl.SpnK.at_ k ck HSP.out hck
        have HKID := Lib.hid (fun W hW => kid_any lo hi bi tt.1 rs k W (InnerAt.below hir hW) (by have := HKL.out.1; omega) HKL.out.2)
        rw [ES.out] at HKID
        have BSr := Lib.hid (HFr.out.1.blk BS3.out (by decide))
        obtain ⟨e0, e1, e2, _, _, _⟩ := facts3' BSr.out
        obtain ⟨bk, ok, rfl, g0⟩ := htr.1.at_ _ _ (refs_at hrk)
        unfold refV at g0
        have q1 : (k : Int) < (N : Int) := by omega
        have hwd : IntKind.i64.wrap ((deep : Int) + 1) = (deep : Int) + 1 := IntWalk.i64_in _ (by omega)
        have hwk : IntKind.i64.wrap ((k : Int) + 1) = (k : Int) + 1 := IntWalk.i64_in _ (by omega)
        have htk : (tt.2.take (k + 1)).flatMap (Pl.prs h) = (tt.2.take k).flatMap (Pl.prs h) ++ Pl.prs h ck := by rw [List.take_add_one, hck]; simp
        have hall : Pl.prs (h + 1) tt = (tt.2.take (k + 1)).flatMap (Pl.prs h) ++ (tt.2.drop (k + 1)).flatMap (Pl.prs h) := by rw [← List.flatMap_append, List.take_append_drop]; rfl
        have HTK := Lib.hid htk
        have HALL := Lib.hid hall
        have hlen2 : (acc ++ (tt.2.take k).flatMap (Pl.prs h)).length + (Pl.prs h ck).length ≤ 100000 := by
          have h8 := HAC.out.2
          rw [hall, htk] at h8
          simp only [List.length_append] at h8 ⊢
          omega
        have HGR : Hid (G' rk = some ⟨h, ck⟩) := HEr.out _ _ (HE2.out |> fun _ => HGK.out k rk ck hrk hck)
        have HLN := Lib.hid hlen2
        have HCF := Lib.hid hcfit
        have HCS := Lib.hid hcs
        obtain ⟨P, hP⟩ : ∃ x, acc ++ (tt.2.take k).flatMap (Pl.prs h) = x := ⟨_, rfl⟩
        have HPP := Lib.hid hP
        rw [hP] at HM HSCr HLN
        have S0 := Lib.hid (And.intro e0 (And.intro e1 (And.intro e2 (And.intro x1 g0))))
        have HBB := Lib.hid hbb
        have HTR := Lib.hid htr
        have HRK := Lib.hid hrk
        clear hrk hck hcfit hcs htk hall hlen2 hir hbb htr hP
        go_wp2_with fail
        obtain ⟨Bd, hBd⟩ : ∃ b, decide ((P ++ Pl.prs h ck).length < many) = b := ⟨_, rfl⟩
        have HBD := Lib.hid hBd
        clear hBd
        go_region_held3 (fun W : World => W.cell? ⟨gs, 0, none⟩ = some (.string sl) ∧ W.cell? ⟨gs, 1, none⟩ = some (.string sh) ∧ W.cell? ⟨gs, 2, none⟩ = some (.bool bn) ∧ W.cell? ⟨bi, 1, none⟩ = some (.slice (some ⟨bk, ok, none⟩) N ca') ∧ W.cell? ⟨bk, ok + k, none⟩ = some (.pointer (some ⟨rk, 0, none⟩))) (first | exact S0.out | exact S1.out | exact S2.out) (first
          | (go_at_call 98
             refine (HKID.out _ ((Below.refl _ _).drew)).mono ?_
             rintro e w4 ⟨rfl, hb4'⟩
             have hb4 : Below wr.heap.size wr w4 := undrew hb4'
             have HB4 := Lib.hid hb4
             have b1 := BSr.out.below hb4 BSr.out.lt
             have b2 := HBB.out.below hb4 HBB.out.lt
             have b3 := (HTR.out.below hb4).1.cell _ _ (refs_at HRK.out)
             have S1 := Lib.hid (And.intro (b1.cell 0) (And.intro (b1.cell 1) (And.intro (b1.cell 2) (And.intro (b2.cell 1) b3))))
             have HIH : Hid (Calls Tryz.prog 142 #[.pointer (some ⟨E.gT, 0, none⟩), .pointer (some ⟨rk, 0, none⟩), spanV (Pl.kLo lo tt.1 k) (Pl.kHi hi tt.1 k), .int .i64 ((deep : Int) + 1), .string (tstr []), .func (.func 143) #[] #[.pointer (some ⟨go, 0, none⟩), .pointer (some ⟨gm, 0, none⟩)]] w4 (WkPost E go gm base many G' P (Pl.prs h ck) w4)) :=
               ih h rfl ck rk (deep + 1) _ _ w4 rd' G' P (HWr.out.below hb4) HGR.out (by rw [decide_eq_false (by omega)]; exact HCF.out) HCS.out (by omega) (HSCr.out.below hb4) HM.out HLN.out
             clear hb4 hb4' b1 b2 b3)
          | (go_at_call 142
             refine HIH.out.mono ?_
             rintro e w5 ⟨G5, rd5, he5, hW5, hE5, hS5, hF5'⟩
             rw [HBD.out] at he5
             subst he5
             have HF5 : Hid (WkFr wr w5) := (WkFr.of_below HB4.out).trans hF5'
             have HW5 := Lib.hid hW5
             have HE5 := Lib.hid hE5
             have HS5 := Lib.hid hS5
             have b1 := HF5.out.1.blk BSr.out (by decide)
             have b2 := HF5.out.1.blk HBB.out (by decide)
             have b3 := (HF5.out.1.tsrc HTR.out (by decide)).1.cell _ _ (refs_at HRK.out)
             have S2 := Lib.hid (And.intro (b1.cell 0) (And.intro (b1.cell 1) (And.intro (b1.cell 2) (And.intro (b2.cell 1) b3))))
             clear hW5 hE5 hS5 hF5' b1 b2 b3)
          | fail)
        have hP9 : P ++ Pl.prs h ck = acc ++ (tt.2.take (k + 1)).flatMap (Pl.prs h) := by rw [HTK.out, ← List.append_assoc, HPP.out]
        have HP9 := Lib.hid hP9
        clear hP9
        cases Bd
        rotate_left
        · have HLT := Lib.hid (of_decide_eq_true HBD.out)
          go_wp2_with fail
          refine ⟨⟨k + 1, G5, rd5, by omega, by go_num, ?_, HW5.out, HEr.out.trans HE5.out, HFr.out.trans HF5.out, ?_⟩, by simp [intOf]; omega⟩
          · show _ < _
            rw [← HP9.out]; exact HLT.out
          · have h8 := HS5.out
            rw [List.take_of_length_le (Nat.le_of_lt HLT.out), HP9.out] at h8
            exact h8
        · have HLT := Lib.hid (of_decide_eq_false HBD.out)
          go_wp2_with fail
          go_ret
          have hlt := HLT.out
          have h8 : acc ++ Pl.prs (h + 1) tt = (P ++ Pl.prs h ck) ++ (tt.2.drop (k + 1)).flatMap (Pl.prs h) := by rw [HP9.out, HALL.out, List.append_assoc]
          refine ⟨G5, rd5, ?_, HW5.out, HE2.out.trans (HEr.out.trans HE5.out), ?_, HF3.out.trans (HFr.out.trans HF5.out)⟩
          · rw [h8, decide_eq_false (by rw [List.length_append]; omega)]
            rfl
          · rw [h8, List.take_append_of_le_length (by omega)]
            exact HS5.out
      · obtain rfl : k = N := by omega
        have q1 : decide ((k : Int) < (k : Int)) = false := decide_eq_false (by omega)
        go_wp2_with fail
        go_ret
        have hM := HM.out
        have h8 : acc ++ (tt.2.take k).flatMap (Pl.prs h) = acc ++ Pl.prs (h + 1) tt := by
          rw [List.take_of_length_le (by rw [HTL.out]; omega)]; rfl
        rw [h8] at hM
        refine ⟨G', rd', ?_, HWr.out, HE2.out.trans HEr.out, ?_, HF3.out.trans HFr.out⟩
        · rw [decide_eq_true hM]
          rfl
        · rw [List.take_of_length_le (Nat.le_of_lt hM), ← h8]
          exact HSCr.out
theorem walk_any (E : TEnv) (go gm base many : Nat) (hn : E.m.n ≤ 4096) (hl : E.d.life ≠ 0) (hgo : base ≤ go) (h1 : 0 < base) (h2 : 1 < base) (hlo : LO ≤ base) (hm : many ≤ 100000) : ∀ h, WkOk E go gm base many h
  | 0 => walk_page E go gm base many hn hl hgo h1 h2 hlo hm 0 (fun _ e => by cases e)
  | h + 1 => walk_page E go gm base many hn hl hgo h1 h2 hlo hm (h + 1) (fun h' e => by
    obtain rfl : h = h' := Nat.succ.inj e
    exact walk_any E go gm base many hn hl hgo h1 h2 hlo hm h)
end Go.Proofs.YtljmklohgpaopaaGreatDoor

namespace Go.Proofs.YtljmklohgpaopaaGreatDoor
open Go.RowKit
set_option linter.unusedSectionVars false
variable [Inhabited LoT]

/-- What Scan's inner function leaves. -/
def S1Post (E : TEnv) (go gm base many : Nat) (G : Gh) (ps : List Pl.Pr) (w : World) (w' : World) : Prop :=
  ∃ G' rd', TW E w' rd' G' ∧ Ext G G' ∧ ScAt w' go gm base many (ps.take many) ∧ WkFr w w'
set_option maxRecDepth 100000 in
set_option maxHeartbeats 4000000 in
theorem scan1_any (E : TEnv) (gt gf go gm base many : Nat) (hn : E.m.n ≤ 4096) (hl : E.d.life ≠ 0) (hgo : base ≤ go) (h1 : 0 < base) (h2 : 1 < base) (hlo : LO ≤ base) (hm : many ≤ 100000) (hm0 : 0 < many) (h : Nat) (t : Pl.Tr h) (w : World) (rd : Int) (G : Gh) (hw : TW E w rd G) (hG : G E.m.root = some ⟨h, t⟩) (hok : Pl.RootOk ⟨h, t⟩) (hh : h ≤ 62) (hev : EvAt w)
    (hps : (Pl.prs h t).length ≤ 100000) (ht : Blk w gt 45 [.pointer (some ⟨E.gT, 0, none⟩)]) (hf : Blk w gf 25 [.slice none 0 0]) (hsc : ScAt w go gm base many []) :
    Calls Tryz.prog 141 #[.pointer (some ⟨gm, 0, none⟩), .pointer (some ⟨gt, 0, none⟩), .pointer (some ⟨gf, 0, none⟩), .pointer (some ⟨go, 0, none⟩)] w fun e w' => e = .returned (.tuple #[]) ∧ S1Post E go gm base many G (Pl.prs h t) w w' := by
  obtain ⟨hrf, hsp⟩ := hok
  obtain ⟨root, hroot⟩ : ∃ x, E.m.root = x := ⟨_, rfl⟩
  have c3 : w.cell? ⟨E.gT, 3, none⟩ = some (.pointer (some ⟨root, 0, none⟩)) := hroot ▸ hw.tree.cell 3
  rw [hroot] at hG
  obtain ⟨v0, v1, v2⟩ := hev
  have c0 : w.cell? ⟨gt, 0, none⟩ = some (.pointer (some ⟨E.gT, 0, none⟩)) := ht.cell 0
  have d0 : w.cell? ⟨gf, 0, none⟩ = some (.slice none 0 0) := hf.cell 0
  have m0 : w.cell? ⟨gm, 0, none⟩ = some (.int .i64 (many : Nat)) := hsc.many.cell 0
  have hmn : ((many : Int) == 0) = false := beq_eq_false_iff_ne.2 (by omega)
  have cv : ∀ W : World, (convert 25 9 (.slice none 0 0)).run Tryz.prog W = .ok (.string (tstr [])) W := fun W => run_tostr W none [] 0 (.inl rfl)
  have hmf : ∀ (fn : Fn) (first cap : Array Value) (w : World), (Instr.makeFunc fn first cap).run Tryz.prog w = .ok (.func fn first cap) w := fun _ _ _ _ => rfl
  have HWK : Hid (∀ W, Below w.heap.size w W → Calls Tryz.prog 142 #[.pointer (some ⟨E.gT, 0, none⟩), refV root, spanV [] none, .int .i64 ((0 : Nat) : Int), .string (tstr []), scanF go gm] W (WkPost E go gm base many G [] (Pl.prs h t) W)) := fun W hW =>
    walk_any E go gm base many hn hl hgo h1 h2 hlo hm h t root 0 [] none W rd G [] (hw.below hW) hG hrf hsp (by omega) (hsc.below hW) hm0 (by simpa using hps)
  have S0 := Lib.hid (And.intro c0 (And.intro c3 (And.intro v0 (And.intro v1 (And.intro v2 d0)))))
  have HBT := Lib.hid ht
  have HBF := Lib.hid hf
  have HEV : Hid (EvAt w) := ⟨v0, v1, v2⟩
  have HRT : Hid (E.m.root = root) := hroot
  unfold refV scanF spanV at HWK
  clear hw hG hrf hsp ht hf hsc hps hroot
  go_enter Tryz.func141, Tryz.ntmps141
  go_wp2_with fail
  go_region_held3 (fun W : World => W.cell? ⟨gt, 0, none⟩ = some (.pointer (some ⟨E.gT, 0, none⟩)) ∧ W.cell? ⟨E.gT, 3, none⟩ = some (.pointer (some ⟨root, 0, none⟩)) ∧ W.cell? ⟨0, 0, none⟩ = some (.string (tstr [])) ∧ W.cell? ⟨0, 1, none⟩ = some (.string (tstr [])) ∧ W.cell? ⟨0, 2, none⟩ = some (.bool true) ∧ W.cell? ⟨gf, 0, none⟩ = some (.slice none 0 0)) (first | exact S0.out | exact S1.out) (first
    | (go_at_call 142
       refine (HWK.out _ ((Below.refl _ _).drew)).mono ?_
       rintro e w5 ⟨G5, rd5, rfl, hW5, hE5, hS5, hF5⟩
       have HR := Lib.hid (And.intro hW5 (And.intro hE5 (And.intro hS5 hF5)))
       have b1 := hF5.1.blk (HBT.out.below ((Below.refl _ _).drew) HBT.out.lt) (by decide)
       have b2 := hF5.1.blk (HBF.out.below ((Below.refl _ _).drew) HBF.out.lt) (by decide)
       have b3 : w5.cell? ⟨E.gT, 3, none⟩ = some (.pointer (some ⟨root, 0, none⟩)) := HRT.out ▸ hW5.tree.cell 3
       obtain ⟨x0, x1, x2⟩ := hF5.2.2.1 (HEV.out.drew)
       have S1 := Lib.hid (And.intro (b1.cell 0) (And.intro b3 (And.intro x0 (And.intro x1 (And.intro x2 (b2.cell 0))))))
       clear hW5 hE5 hS5 hF5 b1 b2 b3 x0 x1 x2)
    | fail)
  obtain ⟨hW5, hE5, hS5, hF5⟩ := HR.out
  go_end0
  exact ⟨rfl, G5, rd5, hW5, hE5, hS5, (WkFr.of_below ((Below.refl _ _).drew)).trans hF5⟩
end Go.Proofs.YtljmklohgpaopaaGreatDoor

namespace Go.Proofs.YtljmklohgpaopaaGreatDoor
open Go.RowKit
set_option linter.unusedSectionVars false
variable [Inhabited LoT]

def scT : List TypeId := [168, 102, 127, 129, 158]
def ScnFr (w w' : World) : Prop := SFr scT w w' ∧ URefs w w' ∧ Gk w w'
theorem ScnFr.trans {a b c : World} (h : ScnFr a b) (k : ScnFr b c) : ScnFr a c := ⟨h.1.trans k.1, h.2.1.trans k.2.1, h.2.2.trans k.2.2⟩
theorem ScnFr.of_below {w w' : World} (h : Below w.heap.size w w') : ScnFr w w' := ⟨SFr.of_below h, (WkFr.of_below h).2⟩
/-- What Scan leaves. -/
def ScQ (E : TEnv) (base many : Nat) (G : Gh) (ps : List Pl.Pr) (v : Value) (w w' : World) : Prop :=
  ∃ G' rd', TW E w' rd' G' ∧ Ext G G' ∧ OutPr w' base v (ps.take many) ∧ ScnFr w w'
theorem enters_scan1 (caps : Array Value) (W : World) : (callFunc 141 caps).run Tryz.prog W = .ok (.enter 141 caps) W := by simp [go_sem]
theorem ev_lt {w : World} (h : EvAt w) : 0 < w.heap.size := World.block_lt_of_cell? _ _ h.1
theorem ge_lt {w : World} (h : GE w) : 1 < w.heap.size := World.block_lt_of_cell? _ _ h
theorem ev_ne {w : World} {gT : Nat} {m : Tm} (h : EvAt w) (hT : TmAt w gT m) : 0 ≠ gT := fun e => by
  subst e
  have h1 : some (Value.pointer (some ⟨m.g, 0, none⟩)) = some (.string (tstr [])) := Eq.trans (Eq.symm (hT.cell 0)) h.1
  cases h1
theorem ge_ne {w : World} {gT : Nat} {m : Tm} (h : GE w) (hT : TmAt w gT m) : 1 ≠ gT := fun e => by
  have h1 : w.cell? ⟨gT, 0, none⟩ = some (.pointer (some ⟨m.g, 0, none⟩)) := hT.cell 0
  subst e
  have h2 := h1.symm.trans h
  cases h2
set_option maxRecDepth 100000 in
set_option maxHeartbeats 4000000 in
theorem tscan_any (E : TEnv) (many : Nat) (hn : E.m.n ≤ 4096) (hl : E.d.life ≠ 0) (hbad : E.m.bad = false) (hm : many ≤ 100000) (hm0 : 0 < many) (h : Nat) (t : Pl.Tr h) (w : World) (rd : Int) (G : Gh) (hw : TW E w rd G) (hG : G E.m.root = some ⟨h, t⟩) (hok : Pl.RootOk ⟨h, t⟩) (hh : h ≤ 62) (hev : EvAt w) (hge : GE w)
    (hps : (Pl.prs h t).length ≤ 100000) :
    Calls Tryz.prog 102 #[.pointer (some ⟨E.gT, 0, none⟩), .slice none 0 0, .int .i64 (many : Nat)] w fun e w' => ∃ v go, e = .returned (.tuple #[v, .nilIface]) ∧ Blk w' go 127 [v] ∧ ScQ E w.heap.size many G (Pl.prs h t) v w w' := by
  obtain ⟨gt, hgt⟩ : ∃ g, w.heap.size = g := ⟨_, rfl⟩
  obtain ⟨w1, hw1⟩ : ∃ x, w.alloc (.cells #[.pointer (some ⟨E.gT, 0, none⟩)] 45) = x := ⟨_, rfl⟩
  have hb1 : Below w.heap.size w w1 := by rw [← hw1]; exact (Below.refl _ _).alloc (Nat.le_refl _) _
  have B1 : Blk w1 gt 45 [.pointer (some ⟨E.gT, 0, none⟩)] := by rw [← hw1, ← hgt]; exact Blk.new w 45 _
  obtain ⟨gf, hgf⟩ : ∃ g, w1.heap.size = g := ⟨_, rfl⟩
  obtain ⟨w2, hw2⟩ : ∃ x, w1.alloc (.cells #[.slice none 0 0] 25) = x := ⟨_, rfl⟩
  have hb2 : Below w1.heap.size w1 w2 := by rw [← hw2]; exact (Below.refl _ _).alloc (Nat.le_refl _) _
  have B2 : Blk w2 gf 25 [.slice none 0 0] := by rw [← hw2, ← hgf]; exact Blk.new w1 25 _
  obtain ⟨gm, hgm⟩ : ∃ g, w2.heap.size = g := ⟨_, rfl⟩
  obtain ⟨w3, hw3⟩ : ∃ x, w2.alloc (.cells #[.int .i64 (many : Nat)] 3) = x := ⟨_, rfl⟩
  have hb3 : Below w2.heap.size w2 w3 := by rw [← hw3]; exact (Below.refl _ _).alloc (Nat.le_refl _) _
  have B3 : Blk w3 gm 3 [.int .i64 (many : Nat)] := by rw [← hw3, ← hgm]; exact Blk.new w2 3 _
  obtain ⟨go, hgo⟩ : ∃ g, w3.heap.size = g := ⟨_, rfl⟩
  obtain ⟨w4, hw4⟩ : ∃ x, w3.alloc (.cells #[.slice none 0 0] 127) = x := ⟨_, rfl⟩
  have hb4 : Below w3.heap.size w3 w4 := by rw [← hw4]; exact (Below.refl _ _).alloc (Nat.le_refl _) _
  have B4 : Blk w4 go 127 [.slice none 0 0] := by rw [← hw4, ← hgo]; exact Blk.new w3 127 _
  have hb12 := hb1.trans (hb2.mono hb1.size)
  have hb13 := hb12.trans (hb3.mono hb12.size)
  have hb14 := hb13.trans (hb4.mono hb13.size)
  have hb24 := hb3.trans (hb4.mono hb3.size)
  have hb34 := hb2.trans (hb24.mono hb2.size)
  have hgo' : w.heap.size ≤ go := by rw [← hgo]; exact hb13.size
  have BT4 := B1.below hb34 B1.lt
  have BF4 := B2.below hb24 B2.lt
  have BM4 := B3.below hb4 B3.lt
  obtain ⟨PS, hPS⟩ : ∃ x, Pl.prs h t = x := ⟨_, rfl⟩
  have HDO : Hid (Calls Tryz.prog 89 #[.pointer (some ⟨E.gT, 0, none⟩), .func (.func 141) #[] #[.pointer (some ⟨gm, 0, none⟩), .pointer (some ⟨gt, 0, none⟩), .pointer (some ⟨gf, 0, none⟩), .pointer (some ⟨go, 0, none⟩)]] w4 fun e w' => e = .returned .nilIface ∧ ∃ v, Blk w' go 127 [v] ∧ ScQ E w.heap.size many G PS v w w') := by
    have hw4' := hw.below hb14
    obtain ⟨W1, hW1⟩ : ∃ x, w4.alloc (.cells #[.nilIface] 83) = x := ⟨_, rfl⟩
    have hbe : Below w4.heap.size w4 W1 := by rw [← hW1]; exact (Below.refl _ _).alloc (Nat.le_refl _) _
    have he : Blk W1 w4.heap.size 83 [.nilIface] := by rw [← hW1]; exact Blk.new w4 83 _
    have hb1e := hb14.trans (hbe.mono hb14.size)
    have hp := scan1_any E gt gf go gm w.heap.size many hn hl hgo' (ev_lt hev) (ge_lt hge) hw.base hm hm0 h t W1 rd G (hw4'.below hbe) hG hok hh (hev.tfr (TFr.of_below hb1e)) hps (BT4.below hbe BT4.lt) (BF4.below hbe BF4.lt) ⟨⟨_, B4.below hbe B4.lt, OutPr.nil _ _⟩, BM4.below hbe BM4.lt⟩
    rw [hPS] at hp
    have hd := tdo_any E.gT E.m 141 #[.pointer (some ⟨gm, 0, none⟩), .pointer (some ⟨gt, 0, none⟩), .pointer (some ⟨gf, 0, none⟩), .pointer (some ⟨go, 0, none⟩)] w4 hw4'.tree hbad (fun k w' => k = 0 ∧ Blk w' w4.heap.size 83 [.nilIface] ∧ S1Post E go gm w.heap.size many G PS W1 w') (enters_scan1 _)
      (fun k w' hq => by
        obtain ⟨_, _, G', rd', h1, _⟩ := hq
        obtain ⟨m, hm', h2⟩ : ∃ m : Tm, m.bad = false ∧ TmAt w' E.gT m := ⟨E.m, hbad, h1.tree⟩
        obtain ⟨m0, m1, m2, m3, m4, m5, m6, m7⟩ := m
        dsimp only at hm'
        subst hm'
        exact ⟨_, _, _, _, _, _, _, h2⟩)
      (by
        rw [hW1]
        exact hp.mono fun e w' hc => by
          obtain ⟨rfl, hq⟩ := hc
          have hq' := hq
          obtain ⟨G', rd', k1, k2, k3, k4⟩ := hq'
          have hbk := k4.1.blk he (by decide)
          exact ⟨hbk, 0, .inl ⟨rfl, rfl⟩, rfl, hbk, hq⟩)
    refine hd.mono ?_
    rintro e w'' ⟨k, w', ⟨rfl, hbk, G', rd', k1, k2, k3, k4⟩, rfl, ho, hx⟩
    have hkk : Kinds (fun b => b = w4.heap.size ∨ b = E.gT) w' [83, 158] := by
      rintro b (rfl | rfl)
      · exact ⟨_, by simp, hbk.typ⟩
      · exact ⟨_, by simp, k1.tree.typ⟩
    have htt : TmAt w'' E.gT E.m := by
      have := hx _ _ _ _ _ _ _ _ k1.tree
      rwa [show ((0 : Nat) == 3) = false from rfl, ← hbad] at this
    have k3' := k3.only ho hkk (by decide) (by decide) (by decide) (by decide)
    obtain ⟨v, o1, o2⟩ := k3'.out
    have hS : SFr scT w w' := (SFr.of_below hb1e).trans (k4.1.mono (by simp [wkT, scT]))
    have hU : URefs w w' := (WkFr.of_below hb1e).2.1.trans k4.2.1
    have hGk : Gk w w' := (WkFr.of_below hb1e).2.2.trans k4.2.2
    have hlo4 : LO ≤ w4.heap.size := hw4'.base
    refine ⟨rfl, v, o1, G', rd', k1.do ho hkk htt, k2, o2, ?_, ?_, ?_⟩
    · exact hS.since2 ho (fun x hx hf => by
        rcases hf with e | e
        · exact absurd e (by have := hb14.size; omega)
        · exact ⟨158, e ▸ hw.tree.typ, by simp [scT]⟩)
    · exact hU.trans (fun r a v hr => ⟨v, ho.blk_ hkk hr (by decide), .inl rfl⟩)
    · refine hGk.trans ⟨fun x => ?_, fun x => ?_, ho.mono (fun b _ hb => by rcases hb with e | e; exact e ▸ hlo4; exact e ▸ hw.low.t)⟩
      · have n1 := ev_ne x k1.tree
        have n2 : 0 ≠ w4.heap.size := Nat.ne_of_lt (Nat.lt_of_lt_of_le (ev_lt hev) hb14.size)
        have n3 : ¬ (0 = w4.heap.size ∨ 0 = E.gT) := fun e => e.elim n2 n1
        exact ⟨ho.cell x.1 n3, ho.cell x.2.1 n3, ho.cell x.2.2 n3⟩
      · have n1 := ge_ne x k1.tree
        have n2 : 1 ≠ w4.heap.size := Nat.ne_of_lt (Nat.lt_of_lt_of_le (ge_lt hge) hb14.size)
        exact ho.cell x (fun e => e.elim n2 n1)
  have hmf : ∀ (fn : Fn) (first cap : Array Value) (w : World), (Instr.makeFunc fn first cap).run Tryz.prog w = .ok (.func fn first cap) w := fun _ _ _ _ => rfl
  have q1 : ¬ ((many : Int) < 0) := by omega
  rw [hPS]
  have d0 : w4.cell? ⟨gt, 0, none⟩ = some (.pointer (some ⟨E.gT, 0, none⟩)) := BT4.cell 0
  have d1 : w3.cell? ⟨gm, 0, none⟩ = some (.int .i64 (many : Nat)) := B3.cell 0
  clear hPS hw hG hok hev hge hb1 hb2 hb3 hb4 hb12 hb13 hb14 hb24 hb34 hgo' BT4 BF4 BM4 B1 B2 B3 B4 hps
  go_enter Tryz.func102, Tryz.ntmps102
  go_wp2_with fail
  refine HDO.out.mono ?_
  rintro e w' ⟨rfl, v, o1, hq⟩
  have HQ := Lib.hid hq
  have HO := Lib.hid o1
  have hv : w'.cell? ⟨go, 0, none⟩ = some v := o1.cell 0
  clear hq o1
  go_wp2_with fail
  go_ret2
  exact ⟨v, go, rfl, HO.out, HQ.out⟩
end Go.Proofs.YtljmklohgpaopaaGreatDoor

namespace Go.Proofs.YtljmklohgpaopaaGreatDoor
open Go.RowKit
set_option linter.unusedSectionVars false
variable [Inhabited LoT]

theorem OutPr.mono {w : World} {base base' : Nat} {v : Value} {acc : List Pl.Pr} (h : OutPr w base v acc) (hb : base' ≤ base) : OutPr w base' v acc := by
  obtain ⟨cs, h1, h2⟩ := h
  obtain ⟨hl, h | ⟨g, cap, cur, e, hg, hr⟩⟩ := h1
  · exact ⟨cs, ⟨hl, .inl h⟩, h2⟩
  · exact ⟨cs, ⟨hl, .inr ⟨g, cap, cur, e, Nat.le_trans hb hg, hr⟩⟩, h2⟩
theorem ScQ.only {E : TEnv} {base many : Nat} {G : Gh} {ps : List Pl.Pr} {v : Value} {w w' w'' : World} {F : Nat → Prop} (h : ScQ E base many G ps v w w') (ho : Only F w' w'') (hk : Kinds F w' [28]) (hF : ∀ x, F x → w.heap.size ≤ x) (hev : EvAt w) (hge : GE w) (hlo : LO ≤ w.heap.size) : ScQ E base many G ps v w w'' := by
  obtain ⟨G', rd', h1, h2, h3, h4, h5, h6⟩ := h
  refine ⟨G', rd', h1.only ho hk (by decide) (by decide) (by decide) (by decide) (by decide), h2, h3.only ho hk (by decide) (by decide), ?_, ?_, ?_⟩
  · exact h4.since ho (fun x hx hf => by have := hF x hf; omega)
  · exact h5.trans (fun r a v hr => ⟨v, ho.blk_ hk hr (by decide), .inl rfl⟩)
  · exact h6.trans (Gk.of_low (ev_lt hev) (ge_lt hge) hlo hF ho)
set_option maxRecDepth 100000 in
set_option maxHeartbeats 2000000 in
theorem ppairs_any (E : TEnv) (many : Nat) (hn : E.m.n ≤ 4096) (hl : E.d.life ≠ 0) (hbad : E.m.bad = false) (hm : many ≤ 100000) (hm0 : 0 < many) (h : Nat) (t : Pl.Tr h) (w : World) (rd : Int) (G : Gh) (hw : TW E w rd G) (hG : G E.m.root = some ⟨h, t⟩) (hok : Pl.RootOk ⟨h, t⟩) (hh : h ≤ 62) (hev : EvAt w) (hge : GE w)
    (hps : (Pl.prs h t).length ≤ 100000) :
    Calls Tryz.prog 55 #[.pointer (some ⟨E.gT, 0, none⟩), .slice none 0 0, .int .i64 (many : Nat)] w fun e w' => ∃ v, e = .returned (.tuple #[v, errA 0 ⟨#[]⟩]) ∧ ScQ E w.heap.size many G (Pl.prs h t) v w w' := by
  have hb0 : Below w.heap.size w (w.alloc err0) := (Below.refl _ _).alloc (Nat.le_refl _) _
  have HC := Lib.hid (tscan_any E many hn hl hbad hm hm0 h t (w.alloc err0) rd G (hw.below hb0) hG hok hh (hev.tfr (TFr.of_below hb0)) (hge.below hb0) hps)
  have BE : Hid (Blk (w.alloc err0) w.heap.size 28 [.int .i64 0, .string ⟨#[]⟩, .bool false]) := Blk.new w 28 _
  have HG0 := Lib.hid (hge.below hb0)
  have HEV := Lib.hid hev
  have HGE := Lib.hid hge
  have HLO := Lib.hid hw.base
  have HB0 := Lib.hid hb0
  obtain ⟨x, hx⟩ : ∃ x, Pl.prs h t = x := ⟨_, rfl⟩
  rw [hx] at HC ⊢
  clear hw hG hok hev hge hb0 hx hps
  go_enter Tryz.func55, Tryz.ntmps55
  go_wp2_with fail
  refine HC.out.mono ?_
  rintro e w2 ⟨v, go, rfl, _, hq⟩
  have hq' := hq
  obtain ⟨G', rd', k1, k2, k3, k4⟩ := hq'
  have HG2 := Lib.hid (k4.2.2.2.1 HG0.out)
  have BE2 := Lib.hid (k4.1.blk BE.out (by decide))
  have HQ : Hid (ScQ E w.heap.size many G x v w w2) := ⟨G', rd', k1, k2, k3.mono HB0.out.size, (ScnFr.of_below HB0.out).trans k4⟩
  have HSZ : Hid (w.heap.size ≤ w2.heap.size) := Nat.le_trans HB0.out.size k4.1.size
  clear hq k1 k2 k3 k4
  go_wp2_with fail
  refine (told_any _ 0 ⟨#[]⟩ _ HG2.out (errK_err _ 0) (by omega)).mono ?_
  rintro e w3 ⟨rfl, hb3⟩
  have BE3 := Lib.hid (BE2.out.below hb3 BE2.out.lt)
  obtain ⟨c0, c1, c2, f0, f1, f2⟩ := facts3 BE3.out
  have HB3 := Lib.hid hb3
  clear hb3
  go_wp2_with fail
  have hq2 := HQ.out.only (Only.of_below HB3.out (fun _ => False)) (fun _ h => h.elim) (fun _ h => h.elim) HEV.out HGE.out HLO.out
  have ho : Only (· = w.heap.size) w3 w3 := Only.refl _ _
  have ho3 : ∀ x0 x1 x2, Only (· = w.heap.size) w3 (((w3.setCell ⟨w.heap.size, 0, none⟩ x0).setCell ⟨w.heap.size, 1, none⟩ x1).setCell ⟨w.heap.size, 2, none⟩ x2) := fun x0 x1 x2 => ((ho.setCell (p := ⟨w.heap.size, 0, none⟩) (.inl rfl) x0).setCell (p := ⟨w.heap.size, 1, none⟩) (.inl rfl) x1).setCell (p := ⟨w.heap.size, 2, none⟩) (.inl rfl) x2
  exact bodyPost_ret (v := .tuple #[v, errA _ ⟨#[]⟩]) (results_err2 rfl rfl rfl (BE3.out.set3 _ _ _)) rfl ⟨v, rfl, hq2.only (ho3 _ _ _) (one_kinds BE3.out) (fun x e => Nat.le_of_eq e.symm) HEV.out HGE.out HLO.out⟩
end Go.Proofs.YtljmklohgpaopaaGreatDoor

namespace Go.Proofs.YtljmklohgpaopaaGreatDoor
open Go.RowKit

def pickOf (c n : Int) : Int := (if c < 0 then -(c + 1) else c) % n
set_option maxHeartbeats 1000000 in
theorem kpick_any (c : Int) (n : Int) (w : World) (hc : -9223372036854775808 ≤ c ∧ c ≤ 9223372036854775807) (hn : 1 ≤ n ∧ n ≤ 1000000) :
    Calls Tryz.prog 16 #[.int .i64 c, .int .i64 n] w fun e w' => e = .returned (.int .i64 (pickOf c n)) ∧ w = w' := by
  unfold pickOf
  by_cases h : c < 0
  · rw [if_pos h]
    have hm : (-(c + 1)).tmod n = (-(c + 1)) % n := Int.tmod_eq_emod_of_nonneg (by omega)
    go_enter Tryz.func16, Tryz.ntmps16
    go_wp2_with fail
    go_ret
    exact ⟨rfl, rfl⟩
  · rw [if_neg h]
    have hm : c.tmod n = c % n := Int.tmod_eq_emod_of_nonneg (by omega)
    go_enter Tryz.func16, Tryz.ntmps16
    go_wp2_with fail
    go_ret
    exact ⟨rfl, rfl⟩

theorem fine_any (k : Int) (w : World) :
    Calls Tryz.prog 20 #[errA k ⟨#[]⟩] w fun e w' => e = .returned (.bool (k == 0)) ∧ Below w.heap.size w w' := by
  have q := eql_err
  unfold errA
  go_enter Tryz.func20, Tryz.ntmps20
  go_wp2_with fail
  go_ret
  refine ⟨?_, (Below.refl _ _).alloc (Nat.le_refl _) _⟩
  simp
theorem failed_any (k : Int) (w : World) :
    Calls Tryz.prog 104 #[errA k ⟨#[]⟩] w fun e w' => e = .returned (.bool (k == 3)) ∧ Below w.heap.size w w' := by
  have q := eql_err
  unfold errA
  go_enter Tryz.func104, Tryz.ntmps104
  go_wp2_with fail
  go_ret
  refine ⟨?_, (Below.refl _ _).alloc (Nat.le_refl _) _⟩
  simp


end Go.Proofs.YtljmklohgpaopaaGreatDoor
