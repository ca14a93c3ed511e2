/- A tree's pages: replaced. -/
import Derived.Test.YtljmklohgpaopaaGreatDoorMgPlanted14
set_option linter.unusedVariables false
set_option linter.unusedSimpArgs false

namespace Go.Proofs.YtljmklohgpaopaaGreatDoor
open Go.RowKit
set_option linter.unusedSectionVars false
variable [Inhabited LoT]

/-- What stands once the small page is together with another. -/
def Spl (E : TEnv) (rd : Int) (G : Gh) (w : World) (h i gs gr gx : Nat) (sp : List Value) (t : Pl.Tr (h + 1)) (r : Pl.Row h) (wx : World) (a b2 : Nat) (r' : Pl.Row h) (G' : Gh) (rd' : Int) (u0 u1 : Value) : Prop :=
  (a, b2, r') = Pl.spliced t.1 t.2 i r ∧ TW E wx rd' G' ∧ Ext G G' ∧ TFr w wx ∧ RdK 1 rd rd' ∧ Blk wx gs 178 sp ∧ Blk wx gr 242 [u0, u1] ∧ RowAt wx G' h (.agg #[u0, u1]) r' ∧ Blk wx gx 242 [.slice none 0 0, .slice none 0 0]

set_option maxRecDepth 100000 in
set_option maxHeartbeats 8000000 in
theorem replaced_any (E : TEnv) (rd : Int) (G : Gh) (h b i deep : Nat) (t : Pl.Tr (h + 1)) (lo : Pl.Key) (hi : Option Pl.Key) (r : Pl.Row h) (rv : Value) (w : World) (hw : TW E w rd G) (hp : PgOk w G (innerV b) (h + 1) t none)
    (hf : Pl.Fit (h + 1) t) (hs : Pl.Spn (h + 1) lo hi t) (hi' : i ≤ t.1.length) (hr : RowAt w G h rv r) (hbc : Pl.Becomes h r) (hfew : r.2.length ≤ 3) (hd : deep + 1 ≤ 64) (hn : E.m.n ≤ 4096) :
    Calls Tryz.prog 160 #[.pointer (some ⟨E.gT, 0, none⟩), .pointer (some ⟨b, 0, none⟩), spanV lo hi, .int .i64 (deep : Nat), .int .i64 (i : Nat), rv] w (RPost E 1 rd G (fun w' G' v => RowAt w' G' (h + 1) v (Pl.replaced t.1 t.2 i r)) w) := by
  obtain ⟨rs, ⟨b', eb, hin⟩, hrl, hgk, _⟩ := hp
  obtain rfl : b = b' := by unfold innerV at eb; injection eb with _ eb; injection eb with eb; injection eb with eb; injection eb
  obtain ⟨f1, f2, f3, f4, f5⟩ := hf
  have hks := len_le_isz t.1
  obtain ⟨A, ca, A', ca', hbb, hca, hca', hta, hta'⟩ := hin
  have hrr := hr
  obtain ⟨Ak, ck, Ap, cp, vs, rfl, hck, hcp, htk, htp, hvl, hve⟩ := hrr
  obtain ⟨sl, hsl⟩ : ∃ s, tstr lo = s := ⟨_, rfl⟩
  obtain ⟨sh, hsh⟩ : ∃ s, tstr (hi.getD []) = s := ⟨_, rfl⟩
  obtain ⟨bn, hbn⟩ : ∃ b, hi.isNone = b := ⟨_, rfl⟩
  have HKID := Lib.hid (fun (j : Nat) (W : World) (hb : InnerAt W b t.1 rs) (hj : j ≤ t.1.length) => kid_any lo hi b t.1 rs j W hb hj (by omega))
  unfold spanV at HKID ⊢
  rw [hsl, hsh, hbn] at HKID ⊢
  obtain ⟨w1, hw1⟩ : ∃ x, w.alloc (.cells #[.string sl, .string sh, .bool bn] 178) = x := ⟨_, rfl⟩
  obtain ⟨w2, hw2⟩ : ∃ x, w1.alloc (.cells #[.slice Ak r.2.length ck, .slice Ap r.1.length cp] 242) = x := ⟨_, rfl⟩
  obtain ⟨w3, hw3⟩ : ∃ x, w2.alloc (.cells #[.slice none 0 0, .slice none 0 0] 242) = x := ⟨_, rfl⟩
  obtain ⟨gs, hgs⟩ : ∃ g, w.heap.size = g := ⟨_, rfl⟩
  obtain ⟨gr, hgr⟩ : ∃ g, w1.heap.size = g := ⟨_, rfl⟩
  obtain ⟨gx, hgx⟩ : ∃ g, w2.heap.size = g := ⟨_, rfl⟩
  have hb1 : Below w.heap.size w w1 := by rw [← hw1]; exact (Below.refl _ _).alloc (Nat.le_refl _) _
  have hb2 : Below w1.heap.size w1 w2 := by rw [← hw2]; exact (Below.refl _ _).alloc (Nat.le_refl _) _
  have hb3 : Below w2.heap.size w2 w3 := by rw [← hw3]; exact (Below.refl _ _).alloc (Nat.le_refl _) _
  have B1 : Blk w1 gs 178 [.string sl, .string sh, .bool bn] := by rw [← hw1, ← hgs]; exact Blk.new w 178 _
  have B2 : Blk w2 gr 242 [.slice Ak r.2.length ck, .slice Ap r.1.length cp] := by rw [← hw2, ← hgr]; exact Blk.new w1 242 _
  have B3 : Blk w3 gx 242 [.slice none 0 0, .slice none 0 0] := by rw [← hw3, ← hgx]; exact Blk.new w2 242 _
  have hb23 := hb2.trans (hb3.mono hb2.size)
  have hb13 := hb1.trans (hb23.mono hb1.size)
  have BS := Lib.hid (B1.below hb23 B1.lt)
  have BR := Lib.hid (B2.below hb3 B2.lt)
  have BX := Lib.hid B3
  have HLTS : Hid (w.heap.size ≤ gs ∧ w.heap.size ≤ gr ∧ w.heap.size ≤ gx ∧ gr ≠ gx) := ⟨by omega, by have := hb1.size; omega, by have := hb1.size; have := hb2.size; omega, by have := B2.lt; omega⟩
  have HW := Lib.hid (hw.below hb13)
  have HIN : Hid (InnerAt w3 b t.1 rs) := InnerAt.below ⟨A, ca, A', ca', hbb, hca, hca', hta, hta'⟩ hb13
  have HRW : Hid (RowAt w3 G h (.agg #[.slice Ak r.2.length ck, .slice Ap r.1.length cp]) r) := hr.below hb13
  have HB := Lib.hid hb13
  have HG := Lib.hid hgk
  have HSP := Lib.hid hs
  have HFT : Hid (Pl.Fit (h + 1) t) := ⟨f1, f2, f3, f4, f5⟩
  have HBC := Lib.hid hbc
  have HFEW := Lib.hid hfew
  have HRL := Lib.hid hrl
  have HCAP : Hid (t.1.length ≤ ca ∧ rs.length ≤ ca') := ⟨hca, hca'⟩
  have HD := Lib.hid hd
  have HNN := Lib.hid hn
  obtain ⟨n, hnl⟩ : ∃ n, t.1.length = n := ⟨_, rfl⟩
  have HN := Lib.hid hnl
  have hrn : rs.length = n + 1 := by omega
  have HRN := Lib.hid hrn
  have hn60 : n ≤ 60 := by omega
  have hn0 : 0 < n := by have := List.length_pos_iff.2 f2; omega
  rw [hnl] at hi'
  have HIW : Hid (∀ W, TFr w3 W → W.cell? ⟨b, 0, none⟩ = some (.slice A n ca) ∧ W.cell? ⟨b, 1, none⟩ = some (.slice A' (n + 1) ca') ∧ InnerAt W b t.1 rs ∧ TSrc W A (ksCells t.1) 9 ∧ TSrc W A' (refsCells rs) 156) := by
    intro W hW
    have h1 := hW.blk (hbb.below hb13 hbb.lt) (by decide) (by decide)
    obtain ⟨c0, c1, _, _⟩ := facts2 h1
    rw [hnl] at c0; rw [hrn] at c1
    exact ⟨c0, c1, ⟨A, ca, A', ca', h1, hca, hca', hW.tsrc (hta.below hb13) (by decide) (by decide), hW.tsrc (hta'.below hb13) (by decide) (by decide)⟩, hW.tsrc (hta.below hb13) (by decide) (by decide), hW.tsrc (hta'.below hb13) (by decide) (by decide)⟩
  have HIW0 : Hid (∀ W, TFr w W → W.cell? ⟨b, 0, none⟩ = some (.slice A n ca) ∧ W.cell? ⟨b, 1, none⟩ = some (.slice A' (n + 1) ca') ∧ TSrc W A (ksCells t.1) 9 ∧ TSrc W A' (refsCells rs) 156) := by
    intro W hW
    have h1 := hW.blk hbb (by decide) (by decide)
    obtain ⟨c0, c1, _, _⟩ := facts2 h1
    rw [hnl] at c0; rw [hrn] at c1
    exact ⟨c0, c1, hW.tsrc hta (by decide) (by decide), hW.tsrc hta' (by decide) (by decide)⟩
  obtain ⟨k, hkk⟩ : ∃ k, r.1.length = k := ⟨_, rfl⟩
  have HK := Lib.hid hkk
  have HVL := Lib.hid hvl
  have HVE : Hid (∀ (i : Nat) (v : Value) (t : Pl.Tr h), vs[i]? = some v → r.1[i]? = some t → PgOk w3 G v h t none) := fun i v t h1 h2 => (hve i v t h1 h2).below hb13
  have HTP := Lib.hid (htp.below hb13)
  rw [hkk]
  rw [hkk] at hw2
  obtain ⟨j2, hj2⟩ : ∃ k, r.2.length = k := ⟨_, rfl⟩
  have HJ2 := Lib.hid hj2
  rw [hj2] at hw2 ⊢
  have BR' : Hid (Blk w3 gr 242 [.slice Ak j2 ck, .slice Ap k cp]) := by have := BR.out; rw [hj2, hkk] at this; exact this
  obtain ⟨r0, r1, z0, z1⟩ := facts2 BR'.out
  clear hw hs hr hbc hfew hd hn hbb hca hca' hta hta' hb1 hb2 hb3 hb23 hb13 B1 B2 B3 hck hcp htk htp hvl hve hrl hgk f1 f2 f3 f4 f5 hks hsl hsh hbn hnl hrn hkk eb hj2 BR
  have hi60 : i ≤ 60 := by omega
  obtain ⟨L, hL⟩ : ∃ L, (Pl.lone r).isSome = L := ⟨_, rfl⟩
  have HL := Lib.hid hL
  clear hL
  go_enter Tryz.func160, Tryz.ntmps160
  go_upto_region 2 with fail
  go_cut [32] from 22 to 146 (fun s32 wx => s32 = .bool L ∧ Hid (Below w3.heap.size w3 wx))
  case first =>
    by_cases hk1 : k = 1
    · obtain ⟨x, hx⟩ : ∃ x, r.1 = [x] := List.length_eq_one_iff.1 (HK.out.trans hk1)
      obtain ⟨v, hv⟩ : ∃ v, vs[0]? = some v := ⟨_, List.getElem?_eq_getElem (by have := HVL.out; have := HK.out; omega)⟩
      have hpx := HVE.out 0 v x hv (by rw [hx]; rfl)
      obtain ⟨b2, off, rfl, g0⟩ := HTP.out.1.at_ _ _ hv
      rw [Nat.add_zero] at g0
      have HSM := Lib.hid (small_any h x v w3 G hpx (by have := HBC.out.size x (by rw [hx]; simp); omega))
      have HLX : Hid (L = decide (Pl.pgsz h x < 85)) := by
        rw [Hid, ← HL.out, lone_one hx]
        by_cases h85 : Pl.pgsz h x < 85
        · rw [if_pos h85, decide_eq_true h85]; rfl
        · rw [if_neg h85, decide_eq_false h85]; rfl
      obtain ⟨T, bb, rfl⟩ := hpx.form h x none
      have q1 : ((k : Int) == 1) = true := by subst hk1; rfl
      have q2 : (0 : Int) < (k : Int) := by omega
      rw [← HLX.out] at HSM
      clear hv hpx hk1
      go_wp2_with fail
      refine HSM.out.mono ?_
      rintro e w4 ⟨rfl, hb4⟩
      have HB4 := Lib.hid hb4
      clear hb4
      cases L
      all_goals
        go_wp2_with fail
        go_meet
        case rel => exact ⟨rfl, HB4⟩
    · have q1 : ((k : Int) == 1) = false := beq_eq_false_iff_ne.2 (by omega)
      have HLX : Hid (L = false) := by rw [Hid, ← HL.out, lone_many (by rw [HK.out]; exact hk1)]; rfl
      go_wp2_with fail
      go_meet
      case rel => exact ⟨by rw [HLX.out], Below.refl _ _⟩
  case rest =>
    obtain ⟨rfl, HBC'⟩ := hcut
    obtain ⟨wd, hwd, HBD⟩ : ∃ x, x = wc ∧ Hid (Below w3.heap.size w3 x) := ⟨wc, rfl, HBC'⟩
    clear HBC'
    subst hwd
    have HPG : Hid (∀ (j rk : Nat) (c : Pl.Tr h) (W : World) (rd' : Int) (G' : Gh), TW E W rd' G' → Ext G G' → rs[j]? = some rk → t.2[j]? = some c →
        Calls Tryz.prog 95 #[.pointer (some ⟨E.gT, 0, none⟩), .pointer (some ⟨rk, 0, none⟩), spanV (Pl.kLo lo t.1 j) (Pl.kHi hi t.1 j), .int .i64 ((deep : Int) + 1)] W (RPost E 1 rd' G' (fun w' G'' v => PgOk w' G'' v h c none ∧ ∃ a, RefAt w' rk a v) W)) := by
      intro j rk c W rd' G' hW hG hr hc
      have h1 := HFT.out.2.2.2.2 c (List.mem_of_getElem? hc)
      have := page_any E rk h (deep + 1) c (Pl.kLo lo t.1 j) (Pl.kHi hi t.1 j) W rd' G' hW (hG _ _ (HG.out j rk c hr hc)) (by rw [decide_eq_false (by omega)]; exact h1) (Pl.SpnK.at_ j c HSP.out hc) HD.out HNN.out
      exact this
    have HCD := Lib.hid (HIW.out wd (TFr.of_below HBD.out))
    have HWD := Lib.hid (HW.out.below HBD.out)
    have BSD := Lib.hid (BS.out.below HBD.out BS.out.lt)
    have BRD := Lib.hid (BR'.out.below HBD.out BR'.out.lt)
    have BXD := Lib.hid (BX.out.below HBD.out BX.out.lt)
    have HTFD : Hid (TFr w wd) := (TFr.of_below HB.out).below HBD.out
    go_upto_if 32 with fail
    go_cut [13, 14, 15, 16] from 33 to 96 (fun s13 s14 s15 s16 wx => ∃ (a b2 : Nat) (r' : Pl.Row h) (G' : Gh) (rd' : Int) (u0 u1 : Value), s13 = .int .i64 (a : Nat) ∧ s14 = .int .i64 (b2 : Nat) ∧ Hid (Spl E rd G w h i gs gr gx [.string sl, .string sh, .bool bn] t r wx a b2 r' G' rd' u0 u1))
    case first =>
      cases L with
      | false =>
        have HNL : Hid (Pl.lone r = none) := by
          have := HL.out
          rw [Hid]
          cases h9 : Pl.lone r with
          | none => rfl
          | some y => rw [h9] at this; cases this
        go_wp2_with fail
        go_meet
        case rel =>
          refine ⟨i, i + 1, r, G, rd, _, _, rfl, by go_num, ?_, HWD.out, Ext.refl G, HTFD.out, RdK.refl 1 rd, BSD.out, BRD.out, ?_, BXD.out⟩
          · unfold Pl.spliced; rw [HNL.out]
          · have := HRW.out.below HBD.out
            rw [HJ2.out, HK.out] at this
            exact this
      | true =>
        obtain ⟨x, hx⟩ : ∃ x, Pl.lone r = some x := by
          have := HL.out
          cases h9 : Pl.lone r with
          | none => rw [h9] at this; cases this
          | some y => exact ⟨y, rfl⟩
        have HX := Lib.hid hx
        obtain ⟨hxh, hx85⟩ := Pl.lone_small HBC.out hx
        have hr1 := Pl.lone_some hx
        have HXH := Lib.hid hxh
        have HX85 := Lib.hid hx85
        have hk1 : k = 1 := by rw [← HK.out, hr1]; rfl
        obtain ⟨v0, hv0⟩ : ∃ v, vs[0]? = some v := ⟨_, List.getElem?_eq_getElem (by have := HVL.out; have := HK.out; omega)⟩
        have hpx := HVE.out 0 v0 x hv0 (by rw [hr1]; rfl)
        obtain ⟨b0, o0, rfl, _⟩ := HTP.out.1.at_ _ _ hv0
        have HV0 := Lib.hid hv0
        have HPX := Lib.hid hpx
        obtain ⟨Tx, bx, rfl⟩ := hpx.form h x none
        have q2 : (0 : Int) < (k : Int) := by omega
        have q2n : 0 < k := by omega
        have hwr : IntKind.i64.wrap ((deep : Int) + 1) = (deep : Int) + 1 := IntWalk.i64_in _ (by have := HD.out; omega)
        clear hx hxh hx85 hr1 hk1 hv0 hpx
        by_cases hi0 : 0 < i
        · have q3 : (0 : Int) < (i : Int) := by omega
          have q5 : ((i : Int) - 1) = ((i - 1 : Nat) : Int) := by omega
          have q6 : ((i - 1 : Nat) : Int) < (n : Int) + 1 := by omega
          have q7 : ((i - 1 : Nat) : Int) < (n : Int) := by omega
          obtain ⟨rk, hrk⟩ : ∃ r, rs[i - 1]? = some r := ⟨_, List.getElem?_eq_getElem (by rw [HRN.out]; omega)⟩
          obtain ⟨c, hc⟩ : ∃ c, t.2[i - 1]? = some c := ⟨_, List.getElem?_eq_getElem (by have := HRL.out; have := HRN.out; omega)⟩
          obtain ⟨key, hkey⟩ : ∃ c, t.1[i - 1]? = some c := ⟨_, List.getElem?_eq_getElem (by rw [HN.out]; omega)⟩
          have HRK := Lib.hid hrk
          have HC := Lib.hid hc
          have HKEY := Lib.hid hkey
          obtain ⟨c0, c1, inn, tk, tr⟩ := HCD.out
          obtain ⟨bk, ok, rfl, g0⟩ := tr.1.at_ _ _ (refs_at hrk)
          unfold refV at g0
          have KD := Lib.hid (HKID.out (i - 1) wd.drew (inn.below ((Below.refl _ _).drew)) (by rw [HN.out]; omega))
          obtain ⟨e0, e1, e2, _, _, _⟩ := facts3' BSD.out
          have C0 := Lib.hid (And.intro c1 (And.intro g0 (And.intro e0 (And.intro e1 e2))))
          clear hrk hc hkey c0 inn tk tr
          go_wp2_with fail
          refine wp_region_L 15 (fun W => W.cell? ⟨b, 1, none⟩ = some (.slice (some ⟨bk, ok, none⟩) (n + 1) ca') ∧ W.cell? ⟨bk, ok + (i - 1), none⟩ = some (.pointer (some ⟨rk, 0, none⟩)) ∧ W.cell? ⟨gs, 0, none⟩ = some (.string sl) ∧ W.cell? ⟨gs, 1, none⟩ = some (.string sh) ∧ W.cell? ⟨gs, 2, none⟩ = some (.bool bn)) (fun _ => True) (by kernel_rfl) C0.out trivial (fun hTill => ?_)
          refine wpL_take' (i := 0) (oi := _) (v := ?_) rfl (by kernel_rfl) (by kernel_rfl) (by kernel_rfl) (by kernel_rfl) (fun _ _ _ h => h) (.inl ⟨by rfl, ?_⟩) (by assumption) ?_
          rotate_left
          · intro W hSw
            (try dsimp only at hSw)
            go_simp
            (try rfl)
          (try simp only [Act.put, List.getElem_toArray, List.getElem_cons_succ, List.getElem_cons_zero, List.setIfInBounds_toArray, List.set_cons_zero, List.set_cons_succ])
          refine wpL_take' (i := 1) (oi := _) (v := ?_) rfl (by kernel_rfl) (by kernel_rfl) (by kernel_rfl) (by kernel_rfl) (fun _ _ _ h => h) (.inl ⟨by rfl, ?_⟩) (by assumption) ?_
          rotate_left
          · intro W hSw
            (try dsimp only at hSw)
            go_simp
            (try rfl)
          (try simp only [Act.put, List.getElem_toArray, List.getElem_cons_succ, List.getElem_cons_zero, List.setIfInBounds_toArray, List.set_cons_zero, List.set_cons_succ])
          refine wpL_take' (i := 2) (oi := _) (v := ?_) rfl (by kernel_rfl) (by kernel_rfl) (by kernel_rfl) (by kernel_rfl) (fun _ _ _ h => h) (.inl ⟨by rfl, ?_⟩) (by assumption) ?_
          rotate_left
          · intro W hSw
            (try dsimp only at hSw)
            go_simp
            (try rfl)
          (try simp only [Act.put, List.getElem_toArray, List.getElem_cons_succ, List.getElem_cons_zero, List.setIfInBounds_toArray, List.set_cons_zero, List.set_cons_succ])
          refine wpL_take' (i := 3) (oi := _) (v := ?_) rfl (by kernel_rfl) (by kernel_rfl) (by kernel_rfl) (by kernel_rfl) (fun _ _ _ h => h) (.inl ⟨by rfl, ?_⟩) (by assumption) ?_
          rotate_left
          · intro W hSw
            (try dsimp only at hSw)
            go_simp
            (try rfl)
          (try simp only [Act.put, List.getElem_toArray, List.getElem_cons_succ, List.getElem_cons_zero, List.setIfInBounds_toArray, List.set_cons_zero, List.set_cons_succ])
          refine wpL_take (i := 4) (oi := _) (v := ?_) rfl (by kernel_rfl) (by kernel_rfl) (by kernel_rfl) (by kernel_rfl) (fun _ _ _ h => h) (.inl ⟨by rfl, ?_⟩) (by assumption) ?_
          rotate_left
          · intro W hSw
            (try dsimp only at hSw)
            go_simp
            (try rfl)
          (try simp only [Act.put, List.getElem_toArray, List.getElem_cons_succ, List.getElem_cons_zero, List.setIfInBounds_toArray, List.set_cons_zero, List.set_cons_succ])
          refine wpL_take' (i := 5) (oi := _) (v := ?_) rfl (by kernel_rfl) (by kernel_rfl) (by kernel_rfl) (by kernel_rfl) (fun _ _ _ h => h) (.inl ⟨by rfl, ?_⟩) (by assumption) ?_
          rotate_left
          · intro W hSw
            (try dsimp only at hSw)
            go_simp
            (try rfl)
          (try simp only [Act.put, List.getElem_toArray, List.getElem_cons_succ, List.getElem_cons_zero, List.setIfInBounds_toArray, List.set_cons_zero, List.set_cons_succ])
          refine wpL_take' (i := 6) (oi := _) (v := ?_) rfl (by kernel_rfl) (by kernel_rfl) (by kernel_rfl) (by kernel_rfl) (fun _ _ _ h => h) (.inl ⟨by rfl, ?_⟩) (by assumption) ?_
          rotate_left
          · intro W hSw
            (try dsimp only at hSw)
            go_simp
            (try rfl)
          (try simp only [Act.put, List.getElem_toArray, List.getElem_cons_succ, List.getElem_cons_zero, List.setIfInBounds_toArray, List.set_cons_zero, List.set_cons_succ])
          refine wpL_take (i := 7) (oi := _) (v := ?_) rfl (by kernel_rfl) (by kernel_rfl) (by kernel_rfl) (by kernel_rfl) (fun _ _ _ h => h) (.inl ⟨by rfl, ?_⟩) (by assumption) ?_
          rotate_left
          · intro W hSw
            (try dsimp only at hSw)
            go_simp
            (try rfl)
          (try simp only [Act.put, List.getElem_toArray, List.getElem_cons_succ, List.getElem_cons_zero, List.setIfInBounds_toArray, List.set_cons_zero, List.set_cons_succ])
          refine wpL_take (i := 8) (oi := _) (v := ?_) rfl (by kernel_rfl) (by kernel_rfl) (by kernel_rfl) (by kernel_rfl) (fun _ _ _ h => h) (.inl ⟨by rfl, ?_⟩) (by assumption) ?_
          rotate_left
          · intro W hSw
            (try dsimp only at hSw)
            go_simp
            (try rfl)
          (try simp only [Act.put, List.getElem_toArray, List.getElem_cons_succ, List.getElem_cons_zero, List.setIfInBounds_toArray, List.set_cons_zero, List.set_cons_succ])
          refine wpL_take' (i := 9) (oi := _) (v := ?_) rfl (by kernel_rfl) (by kernel_rfl) (by kernel_rfl) (by kernel_rfl) (fun _ _ _ h => h) (.inl ⟨by rfl, ?_⟩) (by assumption) ?_
          rotate_left
          · intro W hSw
            (try dsimp only at hSw)
            go_simp
            (try rfl)
          (try simp only [Act.put, List.getElem_toArray, List.getElem_cons_succ, List.getElem_cons_zero, List.setIfInBounds_toArray, List.set_cons_zero, List.set_cons_succ])
          refine wpL_take' (i := 10) (oi := _) (v := ?_) rfl (by kernel_rfl) (by kernel_rfl) (by kernel_rfl) (by kernel_rfl) (fun _ _ _ h => h) (.inl ⟨by rfl, ?_⟩) (by assumption) ?_
          rotate_left
          · intro W hSw
            (try dsimp only at hSw)
            go_simp
            (try rfl)
          (try simp only [Act.put, List.getElem_toArray, List.getElem_cons_succ, List.getElem_cons_zero, List.setIfInBounds_toArray, List.set_cons_zero, List.set_cons_succ])
          refine wpL_take' (i := 12) (oi := _) (v := ?_) rfl (by kernel_rfl) (by kernel_rfl) (by kernel_rfl) (by kernel_rfl) (fun _ _ _ h => h) (.inl ⟨by rfl, ?_⟩) (by assumption) ?_
          rotate_left
          · intro W hSw
            (try dsimp only at hSw)
            go_simp
            (try rfl)
          (try simp only [Act.put, List.getElem_toArray, List.getElem_cons_succ, List.getElem_cons_zero, List.setIfInBounds_toArray, List.set_cons_zero, List.set_cons_succ])
          refine wpL_take' (i := 13) (oi := _) (v := ?_) rfl (by kernel_rfl) (by kernel_rfl) (by kernel_rfl) (by kernel_rfl) (fun _ _ _ h => h) (.inl ⟨by rfl, ?_⟩) (by assumption) ?_
          rotate_left
          · intro W hSw
            (try dsimp only at hSw)
            go_simp
            (try rfl)
          (try simp only [Act.put, List.getElem_toArray, List.getElem_cons_succ, List.getElem_cons_zero, List.setIfInBounds_toArray, List.set_cons_zero, List.set_cons_succ])
          refine wpL_ready (rs := [11]) (by kernel_rfl) (by simp) ?_
          refine AllL.cons (o := _) rfl (fun K hK => ?_) AllL.nil
          go_simp
          refine (KD.out.mono ?_)
          rintro e w4 ⟨rfl, hb4'⟩
          have hb4 : Below wd.heap.size wd w4 := undrew hb4'
          have HB4 := Lib.hid hb4
          have HW4 := Lib.hid (HWD.out.below hb4)
          have HC4 := Lib.hid (HIW.out w4 ((TFr.of_below HBD.out).below hb4))
          have BS4 := Lib.hid (BSD.out.below hb4 BSD.out.lt)
          have HP4 := Lib.hid (HPG.out (i - 1) rk c w4 rd G HW4.out (Ext.refl G) HRK.out HC.out)
          have C4 : Hid (w4.cell? ⟨b, 1, none⟩ = some (.slice (some ⟨bk, ok, none⟩) (n + 1) ca') ∧ w4.cell? ⟨bk, ok + (i - 1), none⟩ = some (.pointer (some ⟨rk, 0, none⟩)) ∧ w4.cell? ⟨gs, 0, none⟩ = some (.string sl) ∧ w4.cell? ⟨gs, 1, none⟩ = some (.string sh) ∧ w4.cell? ⟨gs, 2, none⟩ = some (.bool bn)) :=
            ⟨HC4.out.2.1, HC4.out.2.2.2.2.1.cell _ _ (refs_at HRK.out), BS4.out.cell 0, BS4.out.cell 1, BS4.out.cell 2⟩
          clear hb4 hb4' KD
          go_wp2_with fail
          refine hK.out _ _ ⟨fun _ => C4.out, trivial⟩ (fun hTill => ?_)
          clear hK K
          (try simp only [Act.put, List.getElem_toArray, List.getElem_cons_succ, List.getElem_cons_zero, List.setIfInBounds_toArray, List.set_cons_zero, List.set_cons_succ])
          refine wpL_ready (rs := [14]) (by kernel_rfl) (by simp) ?_
          refine AllL.cons (o := _) rfl (fun K hK => ?_) AllL.nil
          go_simp
          refine HP4.out.mono ?_
          rintro e w5 h5
          rcases h5 with ⟨v5, G5, rd5, rfl, hW5, hE5, hT5, hR5, hP5, a5, hA5⟩ | ⟨hal, rfl, ⟨rd5, hd5⟩, hT5⟩
          rotate_left
          · have HAL := Lib.hid hal
            have HD5 := Lib.hid hd5
            have HT5 := Lib.hid hT5
            clear hal hd5 hT5
            unfold tdied
            go_wp2_with fail
            exact ⟨rfl, .inr ⟨HAL.out, rfl, ⟨rd5, HD5.out⟩, (HTFD.out.below HB4.out).trans HT5.out⟩⟩
          obtain ⟨T5, b5, rfl⟩ := hP5.form h c none
          have HW5 := Lib.hid hW5
          have HE5 := Lib.hid hE5
          have HR5 := Lib.hid hR5
          have HP5 := Lib.hid hP5
          have HT5 : Hid (TFr w w5) := (HTFD.out.below HB4.out).trans hT5
          have HC5 := Lib.hid (HIW.out w5 (((TFr.of_below HBD.out).below HB4.out).trans hT5))
          have BS5 := Lib.hid (hT5.blk BS4.out (by decide) (by decide))
          have BR5 := Lib.hid (hT5.blk (BRD.out.below HB4.out BRD.out.lt) (by decide) (by decide))
          have BX5 := Lib.hid (hT5.blk (BXD.out.below HB4.out BXD.out.lt) (by decide) (by decide))
          have HPX5 := Lib.hid (((HPX.out.below HBD.out).below HB4.out).tfr hT5 hE5)
          have HTP5 := Lib.hid (hT5.tsrc ((HTP.out.below HBD.out).below HB4.out) (by decide) (by decide))
          have HT45 := Lib.hid hT5
          have C5 : Hid (w5.cell? ⟨b, 1, none⟩ = some (.slice (some ⟨bk, ok, none⟩) (n + 1) ca') ∧ w5.cell? ⟨bk, ok + (i - 1), none⟩ = some (.pointer (some ⟨rk, 0, none⟩)) ∧ w5.cell? ⟨gs, 0, none⟩ = some (.string sl) ∧ w5.cell? ⟨gs, 1, none⟩ = some (.string sh) ∧ w5.cell? ⟨gs, 2, none⟩ = some (.bool bn)) :=
            ⟨HC5.out.2.1, HC5.out.2.2.2.2.1.cell _ _ (refs_at HRK.out), BS5.out.cell 0, BS5.out.cell 1, BS5.out.cell 2⟩
          clear hW5 hE5 hR5 hP5 hT5 hA5
          go_wp2_with fail
          refine hK.out _ _ ⟨fun _ => C5.out, trivial⟩ (fun hTill => ?_)
          clear hK K
          (try simp only [Act.put, List.getElem_toArray, List.getElem_cons_succ, List.getElem_cons_zero, List.setIfInBounds_toArray, List.set_cons_zero, List.set_cons_succ])
          refine wpL_ready (rs := [15]) (by kernel_rfl) (by simp) ?_
          refine AllL.cons (o := _) rfl (fun K hK => ?_) AllL.nil
          go_simp
          refine hK.out _ _ ⟨fun h => Bool.noConfusion ((show _ = true by kernel_rfl).symm.trans h), trivial⟩ (fun hTill => ?_)
          clear hK K
          (try simp only [Act.put, List.getElem_toArray, List.getElem_cons_succ, List.getElem_cons_zero, List.setIfInBounds_toArray, List.set_cons_zero, List.set_cons_succ])
          refine wpL_done (by kernel_rfl) ?_ _
          clear hTill
          obtain ⟨ba, oa, hAk, gk⟩ := HC5.out.2.2.2.1.1.at_ _ _ (ks_at HKEY.out)
          subst hAk
          have gv := HTP5.out.1.cell _ _ HV0.out
          rw [Nat.add_zero] at gv
          have D0 := Lib.hid (And.intro HC5.out.1 (And.intro gk (And.intro (BR5.out.cell 1) gv)))
          have KT := Lib.hid (together_any h c x key _ _ w5.drew G5 (HP5.out.below ((Below.refl _ _).drew)) (HPX5.out.below ((Below.refl _ _).drew)) (.inl (HFT.out.2.2.2.2 c (List.mem_of_getElem? HC.out))) HXH.out (HFT.out.2.2.2.1 key (List.mem_of_getElem? HKEY.out)) (by have := Pl.Fit.size h c (HFT.out.2.2.2.2 c (List.mem_of_getElem? HC.out)); have := HX85.out; omega))
          clear gk gv
          go_wp2_with fail
          refine wp_region_L 13 (fun W => W.cell? ⟨b, 0, none⟩ = some (.slice (some ⟨ba, oa, none⟩) n ca) ∧ W.cell? ⟨ba, oa + (i - 1), none⟩ = some (.string (tstr key)) ∧ W.cell? ⟨gr, 1, none⟩ = some (.slice (some ⟨b0, o0, none⟩) k cp) ∧ W.cell? ⟨b0, o0, none⟩ = some (.iface Tx (.pointer (some ⟨bx, 0, none⟩)))) (fun _ => True) (by kernel_rfl) D0.out trivial (fun hTill => ?_)
          refine wpL_take' (i := 0) (oi := _) (v := ?_) rfl (by kernel_rfl) (by kernel_rfl) (by kernel_rfl) (by kernel_rfl) (fun _ _ _ h => h) (.inl ⟨by rfl, ?_⟩) (by assumption) ?_
          rotate_left
          · intro W hSw
            (try dsimp only at hSw)
            go_simp
            (try rfl)
          (try simp only [Act.put, List.getElem_toArray, List.getElem_cons_succ, List.getElem_cons_zero, List.setIfInBounds_toArray, List.set_cons_zero, List.set_cons_succ])
          refine wpL_take' (i := 1) (oi := _) (v := ?_) rfl (by kernel_rfl) (by kernel_rfl) (by kernel_rfl) (by kernel_rfl) (fun _ _ _ h => h) (.inl ⟨by rfl, ?_⟩) (by assumption) ?_
          rotate_left
          · intro W hSw
            (try dsimp only at hSw)
            go_simp
            (try rfl)
          (try simp only [Act.put, List.getElem_toArray, List.getElem_cons_succ, List.getElem_cons_zero, List.setIfInBounds_toArray, List.set_cons_zero, List.set_cons_succ])
          refine wpL_take' (i := 2) (oi := _) (v := ?_) rfl (by kernel_rfl) (by kernel_rfl) (by kernel_rfl) (by kernel_rfl) (fun _ _ _ h => h) (.inl ⟨by rfl, ?_⟩) (by assumption) ?_
          rotate_left
          · intro W hSw
            (try dsimp only at hSw)
            go_simp
            (try rfl)
          (try simp only [Act.put, List.getElem_toArray, List.getElem_cons_succ, List.getElem_cons_zero, List.setIfInBounds_toArray, List.set_cons_zero, List.set_cons_succ])
          refine wpL_take' (i := 3) (oi := _) (v := ?_) rfl (by kernel_rfl) (by kernel_rfl) (by kernel_rfl) (by kernel_rfl) (fun _ _ _ h => h) (.inl ⟨by rfl, ?_⟩) (by assumption) ?_
          rotate_left
          · intro W hSw
            (try dsimp only at hSw)
            go_simp
            (try rfl)
          (try simp only [Act.put, List.getElem_toArray, List.getElem_cons_succ, List.getElem_cons_zero, List.setIfInBounds_toArray, List.set_cons_zero, List.set_cons_succ])
          refine wpL_take (i := 4) (oi := _) (v := ?_) rfl (by kernel_rfl) (by kernel_rfl) (by kernel_rfl) (by kernel_rfl) (fun _ _ _ h => h) (.inl ⟨by rfl, ?_⟩) (by assumption) ?_
          rotate_left
          · intro W hSw
            (try dsimp only at hSw)
            go_simp
            (try rfl)
          (try simp only [Act.put, List.getElem_toArray, List.getElem_cons_succ, List.getElem_cons_zero, List.setIfInBounds_toArray, List.set_cons_zero, List.set_cons_succ])
          refine wpL_take' (i := 5) (oi := _) (v := ?_) rfl (by kernel_rfl) (by kernel_rfl) (by kernel_rfl) (by kernel_rfl) (fun _ _ _ h => h) (.inl ⟨by rfl, ?_⟩) (by assumption) ?_
          rotate_left
          · intro W hSw
            (try dsimp only at hSw)
            go_simp
            (try rfl)
          (try simp only [Act.put, List.getElem_toArray, List.getElem_cons_succ, List.getElem_cons_zero, List.setIfInBounds_toArray, List.set_cons_zero, List.set_cons_succ])
          refine wpL_take' (i := 6) (oi := _) (v := ?_) rfl (by kernel_rfl) (by kernel_rfl) (by kernel_rfl) (by kernel_rfl) (fun _ _ _ h => h) (.inl ⟨by rfl, ?_⟩) (by assumption) ?_
          rotate_left
          · intro W hSw
            (try dsimp only at hSw)
            go_simp
            (try rfl)
          (try simp only [Act.put, List.getElem_toArray, List.getElem_cons_succ, List.getElem_cons_zero, List.setIfInBounds_toArray, List.set_cons_zero, List.set_cons_succ])
          refine wpL_take (i := 7) (oi := _) (v := ?_) rfl (by kernel_rfl) (by kernel_rfl) (by kernel_rfl) (by kernel_rfl) (fun _ _ _ h => h) (.inl ⟨by rfl, ?_⟩) (by assumption) ?_
          rotate_left
          · intro W hSw
            (try dsimp only at hSw)
            go_simp
            (try rfl)
          (try simp only [Act.put, List.getElem_toArray, List.getElem_cons_succ, List.getElem_cons_zero, List.setIfInBounds_toArray, List.set_cons_zero, List.set_cons_succ])
          refine wpL_take' (i := 8) (oi := _) (v := ?_) rfl (by kernel_rfl) (by kernel_rfl) (by kernel_rfl) (by kernel_rfl) (fun _ _ _ h => h) (.inl ⟨by rfl, ?_⟩) (by assumption) ?_
          rotate_left
          · intro W hSw
            (try dsimp only at hSw)
            go_simp
            (try rfl)
          (try simp only [Act.put, List.getElem_toArray, List.getElem_cons_succ, List.getElem_cons_zero, List.setIfInBounds_toArray, List.set_cons_zero, List.set_cons_succ])
          refine wpL_take (i := 9) (oi := _) (v := ?_) rfl (by kernel_rfl) (by kernel_rfl) (by kernel_rfl) (by kernel_rfl) (fun _ _ _ h => h) (.inl ⟨by rfl, ?_⟩) (by assumption) ?_
          rotate_left
          · intro W hSw
            (try dsimp only at hSw)
            go_simp
            (try rfl)
          (try simp only [Act.put, List.getElem_toArray, List.getElem_cons_succ, List.getElem_cons_zero, List.setIfInBounds_toArray, List.set_cons_zero, List.set_cons_succ])
          refine wpL_take' (i := 10) (oi := _) (v := ?_) rfl (by kernel_rfl) (by kernel_rfl) (by kernel_rfl) (by kernel_rfl) (fun _ _ _ h => h) (.inl ⟨by rfl, ?_⟩) (by assumption) ?_
          rotate_left
          · intro W hSw
            (try dsimp only at hSw)
            go_simp
            (try rfl)
          (try simp only [Act.put, List.getElem_toArray, List.getElem_cons_succ, List.getElem_cons_zero, List.setIfInBounds_toArray, List.set_cons_zero, List.set_cons_succ])
          refine wpL_take (i := 11) (oi := _) (v := ?_) rfl (by kernel_rfl) (by kernel_rfl) (by kernel_rfl) (by kernel_rfl) (fun _ _ _ h => h) (.inl ⟨by rfl, ?_⟩) (by assumption) ?_
          rotate_left
          · intro W hSw
            (try dsimp only at hSw)
            go_simp
            (try rfl)
          (try simp only [Act.put, List.getElem_toArray, List.getElem_cons_succ, List.getElem_cons_zero, List.setIfInBounds_toArray, List.set_cons_zero, List.set_cons_succ])
          refine wpL_ready (rs := [12]) (by kernel_rfl) (by simp) ?_
          refine AllL.cons (o := _) rfl (fun K hK => ?_) AllL.nil
          go_simp
          refine KT.out.mono ?_
          rintro e w6 ⟨rv6, rfl, hrow, hb6'⟩
          have hb6 : Below w5.heap.size w5 w6 := undrew hb6'
          have HRW6 := Lib.hid hrow
          obtain ⟨Ak6, ck6, Ap6, cp6, vs6, rfl, _⟩ := hrow
          have BR6 := Lib.hid (BR5.out.below hb6 BR5.out.lt)
          have BX6 := Lib.hid (BX5.out.below hb6 BX5.out.lt)
          have BS6 := Lib.hid (BS5.out.below hb6 BS5.out.lt)
          have HW6 := Lib.hid (HW5.out.below hb6)
          have HT6 := Lib.hid (HT5.out.below hb6)
          have HC6 := Lib.hid (HIW.out w6 (((TFr.of_below HBD.out).below HB4.out).trans (HT45.out.below hb6)))
          have D6 : Hid (w6.cell? ⟨b, 0, none⟩ = some (.slice (some ⟨ba, oa, none⟩) n ca) ∧ w6.cell? ⟨ba, oa + (i - 1), none⟩ = some (.string (tstr key)) ∧ w6.cell? ⟨gr, 1, none⟩ = some (.slice (some ⟨b0, o0, none⟩) k cp) ∧ w6.cell? ⟨b0, o0, none⟩ = some (.iface Tx (.pointer (some ⟨bx, 0, none⟩)))) := by
            have gv := (HTP5.out.below hb6).1.cell _ _ HV0.out
            rw [Nat.add_zero] at gv
            exact ⟨HC6.out.1, HC6.out.2.2.2.1.1.cell _ _ (ks_at HKEY.out), BR6.out.cell 1, gv⟩
          obtain ⟨x0, x1, y0, y1⟩ := facts2 BR6.out
          clear hb6 hb6' KT
          go_wp2_with fail
          refine hK.out _ _ ⟨fun _ => D6.out, trivial⟩ (fun hTill => ?_)
          clear hK K
          (try simp only [Act.put, List.getElem_toArray, List.getElem_cons_succ, List.getElem_cons_zero, List.setIfInBounds_toArray, List.set_cons_zero, List.set_cons_succ])
          refine wpL_ready (rs := [13]) (by kernel_rfl) (by simp) ?_
          refine AllL.cons (o := _) rfl (fun K hK => ?_) AllL.nil
          go_simp
          refine hK.out _ _ ⟨fun h => Bool.noConfusion ((show _ = true by kernel_rfl).symm.trans h), trivial⟩ (fun hTill => ?_)
          clear hK K
          (try simp only [Act.put, List.getElem_toArray, List.getElem_cons_succ, List.getElem_cons_zero, List.setIfInBounds_toArray, List.set_cons_zero, List.set_cons_succ])
          refine wpL_done (by kernel_rfl) ?_ _
          clear hTill
          go_wp2_with fail
          go_meet
          case rel =>
            have ho := set2_only w6 gr (.slice Ak6 (Pl.together h c key x).2.length ck6) (.slice Ap6 (Pl.together h c key x).1.length cp6)
            have hk := one_kinds BR6.out
            refine ⟨i - 1, i + 1, Pl.together h c key x, G5, rd5, _, _, rfl, by go_num, ?_, HW6.out.only ho hk (by decide) (by decide) (by decide) (by decide) (by decide), HE5.out, HT6.out.since ho (fun x hx e => by have := HLTS.out; omega), HR5.out, ho.blk_ hk BS6.out (by decide), (BR6.out.set_ 0 _).set_ 1 _, row_done BR6.out HRW6.out, ho.blk BX6.out (fun e => HLTS.out.2.2.2 e.symm)⟩
            unfold Pl.spliced
            rw [HX.out]
            simp only
            rw [if_pos hi0, HC.out, HKEY.out]
        · have q3 : ¬ (0 : Int) < (i : Int) := by omega
          have q6 : (i : Int) + 1 < (n : Int) + 1 := by omega
          have q7 : (i : Int) < (n : Int) := by omega
          have hw2' : IntKind.i64.wrap ((i : Int) + 1) = (i : Int) + 1 := IntWalk.i64_in _ (by omega)
          obtain ⟨rk, hrk⟩ : ∃ r, rs[i + 1]? = some r := ⟨_, List.getElem?_eq_getElem (by rw [HRN.out]; omega)⟩
          obtain ⟨c, hc⟩ : ∃ c, t.2[i + 1]? = some c := ⟨_, List.getElem?_eq_getElem (by have := HRL.out; have := HRN.out; omega)⟩
          obtain ⟨key, hkey⟩ : ∃ c, t.1[i]? = some c := ⟨_, List.getElem?_eq_getElem (by rw [HN.out]; omega)⟩
          have HRK := Lib.hid hrk
          have HC := Lib.hid hc
          have HKEY := Lib.hid hkey
          obtain ⟨c0, c1, inn, tk, tr⟩ := HCD.out
          obtain ⟨bk, ok, rfl, g0⟩ := tr.1.at_ _ _ (refs_at hrk)
          unfold refV at g0
          have KD := Lib.hid (HKID.out (i + 1) wd.drew (inn.below ((Below.refl _ _).drew)) (by rw [HN.out]; omega))
          obtain ⟨e0, e1, e2, _, _, _⟩ := facts3' BSD.out
          have C0 := Lib.hid (And.intro c1 (And.intro g0 (And.intro e0 (And.intro e1 e2))))
          clear hrk hc hkey c0 inn tk tr
          go_wp2_with fail
          refine wp_region_L 17 (fun W => W.cell? ⟨b, 1, none⟩ = some (.slice (some ⟨bk, ok, none⟩) (n + 1) ca') ∧ W.cell? ⟨bk, ok + (i + 1), none⟩ = some (.pointer (some ⟨rk, 0, none⟩)) ∧ W.cell? ⟨gs, 0, none⟩ = some (.string sl) ∧ W.cell? ⟨gs, 1, none⟩ = some (.string sh) ∧ W.cell? ⟨gs, 2, none⟩ = some (.bool bn)) (fun _ => True) (by kernel_rfl) C0.out trivial (fun hTill => ?_)
          refine wpL_take' (i := 0) (oi := _) (v := ?_) rfl (by kernel_rfl) (by kernel_rfl) (by kernel_rfl) (by kernel_rfl) (fun _ _ _ h => h) (.inl ⟨by rfl, ?_⟩) (by assumption) ?_
          rotate_left
          · intro W hSw
            (try dsimp only at hSw)
            go_simp
            (try rfl)
          (try simp only [Act.put, List.getElem_toArray, List.getElem_cons_succ, List.getElem_cons_zero, List.setIfInBounds_toArray, List.set_cons_zero, List.set_cons_succ])
          refine wpL_take' (i := 1) (oi := _) (v := ?_) rfl (by kernel_rfl) (by kernel_rfl) (by kernel_rfl) (by kernel_rfl) (fun _ _ _ h => h) (.inl ⟨by rfl, ?_⟩) (by assumption) ?_
          rotate_left
          · intro W hSw
            (try dsimp only at hSw)
            go_simp
            (try rfl)
          (try simp only [Act.put, List.getElem_toArray, List.getElem_cons_succ, List.getElem_cons_zero, List.setIfInBounds_toArray, List.set_cons_zero, List.set_cons_succ])
          refine wpL_take' (i := 2) (oi := _) (v := ?_) rfl (by kernel_rfl) (by kernel_rfl) (by kernel_rfl) (by kernel_rfl) (fun _ _ _ h => h) (.inl ⟨by rfl, ?_⟩) (by assumption) ?_
          rotate_left
          · intro W hSw
            (try dsimp only at hSw)
            go_simp
            (try rfl)
          (try simp only [Act.put, List.getElem_toArray, List.getElem_cons_succ, List.getElem_cons_zero, List.setIfInBounds_toArray, List.set_cons_zero, List.set_cons_succ])
          refine wpL_take' (i := 3) (oi := _) (v := ?_) rfl (by kernel_rfl) (by kernel_rfl) (by kernel_rfl) (by kernel_rfl) (fun _ _ _ h => h) (.inl ⟨by rfl, ?_⟩) (by assumption) ?_
          rotate_left
          · intro W hSw
            (try dsimp only at hSw)
            go_simp
            (try rfl)
          (try simp only [Act.put, List.getElem_toArray, List.getElem_cons_succ, List.getElem_cons_zero, List.setIfInBounds_toArray, List.set_cons_zero, List.set_cons_succ])
          refine wpL_take (i := 4) (oi := _) (v := ?_) rfl (by kernel_rfl) (by kernel_rfl) (by kernel_rfl) (by kernel_rfl) (fun _ _ _ h => h) (.inl ⟨by rfl, ?_⟩) (by assumption) ?_
          rotate_left
          · intro W hSw
            (try dsimp only at hSw)
            go_simp
            (try rfl)
          (try simp only [Act.put, List.getElem_toArray, List.getElem_cons_succ, List.getElem_cons_zero, List.setIfInBounds_toArray, List.set_cons_zero, List.set_cons_succ])
          refine wpL_take' (i := 5) (oi := _) (v := ?_) rfl (by kernel_rfl) (by kernel_rfl) (by kernel_rfl) (by kernel_rfl) (fun _ _ _ h => h) (.inl ⟨by rfl, ?_⟩) (by assumption) ?_
          rotate_left
          · intro W hSw
            (try dsimp only at hSw)
            go_simp
            (try rfl)
          (try simp only [Act.put, List.getElem_toArray, List.getElem_cons_succ, List.getElem_cons_zero, List.setIfInBounds_toArray, List.set_cons_zero, List.set_cons_succ])
          refine wpL_take' (i := 6) (oi := _) (v := ?_) rfl (by kernel_rfl) (by kernel_rfl) (by kernel_rfl) (by kernel_rfl) (fun _ _ _ h => h) (.inl ⟨by rfl, ?_⟩) (by assumption) ?_
          rotate_left
          · intro W hSw
            (try dsimp only at hSw)
            go_simp
            (try rfl)
          (try simp only [Act.put, List.getElem_toArray, List.getElem_cons_succ, List.getElem_cons_zero, List.setIfInBounds_toArray, List.set_cons_zero, List.set_cons_succ])
          refine wpL_take' (i := 7) (oi := _) (v := ?_) rfl (by kernel_rfl) (by kernel_rfl) (by kernel_rfl) (by kernel_rfl) (fun _ _ _ h => h) (.inl ⟨by rfl, ?_⟩) (by assumption) ?_
          rotate_left
          · intro W hSw
            (try dsimp only at hSw)
            go_simp
            (try rfl)
          (try simp only [Act.put, List.getElem_toArray, List.getElem_cons_succ, List.getElem_cons_zero, List.setIfInBounds_toArray, List.set_cons_zero, List.set_cons_succ])
          refine wpL_take (i := 8) (oi := _) (v := ?_) rfl (by kernel_rfl) (by kernel_rfl) (by kernel_rfl) (by kernel_rfl) (fun _ _ _ h => h) (.inl ⟨by rfl, ?_⟩) (by assumption) ?_
          rotate_left
          · intro W hSw
            (try dsimp only at hSw)
            go_simp
            (try rfl)
          (try simp only [Act.put, List.getElem_toArray, List.getElem_cons_succ, List.getElem_cons_zero, List.setIfInBounds_toArray, List.set_cons_zero, List.set_cons_succ])
          refine wpL_take (i := 9) (oi := _) (v := ?_) rfl (by kernel_rfl) (by kernel_rfl) (by kernel_rfl) (by kernel_rfl) (fun _ _ _ h => h) (.inl ⟨by rfl, ?_⟩) (by assumption) ?_
          rotate_left
          · intro W hSw
            (try dsimp only at hSw)
            go_simp
            (try rfl)
          (try simp only [Act.put, List.getElem_toArray, List.getElem_cons_succ, List.getElem_cons_zero, List.setIfInBounds_toArray, List.set_cons_zero, List.set_cons_succ])
          refine wpL_take' (i := 10) (oi := _) (v := ?_) rfl (by kernel_rfl) (by kernel_rfl) (by kernel_rfl) (by kernel_rfl) (fun _ _ _ h => h) (.inl ⟨by rfl, ?_⟩) (by assumption) ?_
          rotate_left
          · intro W hSw
            (try dsimp only at hSw)
            go_simp
            (try rfl)
          (try simp only [Act.put, List.getElem_toArray, List.getElem_cons_succ, List.getElem_cons_zero, List.setIfInBounds_toArray, List.set_cons_zero, List.set_cons_succ])
          refine wpL_take' (i := 11) (oi := _) (v := ?_) rfl (by kernel_rfl) (by kernel_rfl) (by kernel_rfl) (by kernel_rfl) (fun _ _ _ h => h) (.inl ⟨by rfl, ?_⟩) (by assumption) ?_
          rotate_left
          · intro W hSw
            (try dsimp only at hSw)
            go_simp
            (try rfl)
          (try simp only [Act.put, List.getElem_toArray, List.getElem_cons_succ, List.getElem_cons_zero, List.setIfInBounds_toArray, List.set_cons_zero, List.set_cons_succ])
          refine wpL_take' (i := 12) (oi := _) (v := ?_) rfl (by kernel_rfl) (by kernel_rfl) (by kernel_rfl) (by kernel_rfl) (fun _ _ _ h => h) (.inl ⟨by rfl, ?_⟩) (by assumption) ?_
          rotate_left
          · intro W hSw
            (try dsimp only at hSw)
            go_simp
            (try rfl)
          (try simp only [Act.put, List.getElem_toArray, List.getElem_cons_succ, List.getElem_cons_zero, List.setIfInBounds_toArray, List.set_cons_zero, List.set_cons_succ])
          refine wpL_take' (i := 14) (oi := _) (v := ?_) rfl (by kernel_rfl) (by kernel_rfl) (by kernel_rfl) (by kernel_rfl) (fun _ _ _ h => h) (.inl ⟨by rfl, ?_⟩) (by assumption) ?_
          rotate_left
          · intro W hSw
            (try dsimp only at hSw)
            go_simp
            (try rfl)
          (try simp only [Act.put, List.getElem_toArray, List.getElem_cons_succ, List.getElem_cons_zero, List.setIfInBounds_toArray, List.set_cons_zero, List.set_cons_succ])
          refine wpL_take' (i := 15) (oi := _) (v := ?_) rfl (by kernel_rfl) (by kernel_rfl) (by kernel_rfl) (by kernel_rfl) (fun _ _ _ h => h) (.inl ⟨by rfl, ?_⟩) (by assumption) ?_
          rotate_left
          · intro W hSw
            (try dsimp only at hSw)
            go_simp
            (try rfl)
          (try simp only [Act.put, List.getElem_toArray, List.getElem_cons_succ, List.getElem_cons_zero, List.setIfInBounds_toArray, List.set_cons_zero, List.set_cons_succ])
          refine wpL_ready (rs := [13]) (by kernel_rfl) (by simp) ?_
          refine AllL.cons (o := _) rfl (fun K hK => ?_) AllL.nil
          go_simp
          refine (KD.out.mono ?_)
          rintro e w4 ⟨rfl, hb4'⟩
          have hb4 : Below wd.heap.size wd w4 := undrew hb4'
          have HB4 := Lib.hid hb4
          have HW4 := Lib.hid (HWD.out.below hb4)
          have HC4 := Lib.hid (HIW.out w4 ((TFr.of_below HBD.out).below hb4))
          have BS4 := Lib.hid (BSD.out.below hb4 BSD.out.lt)
          have HP4 := Lib.hid (HPG.out (i + 1) rk c w4 rd G HW4.out (Ext.refl G) HRK.out HC.out)
          have C4 : Hid (w4.cell? ⟨b, 1, none⟩ = some (.slice (some ⟨bk, ok, none⟩) (n + 1) ca') ∧ w4.cell? ⟨bk, ok + (i + 1), none⟩ = some (.pointer (some ⟨rk, 0, none⟩)) ∧ w4.cell? ⟨gs, 0, none⟩ = some (.string sl) ∧ w4.cell? ⟨gs, 1, none⟩ = some (.string sh) ∧ w4.cell? ⟨gs, 2, none⟩ = some (.bool bn)) :=
            ⟨HC4.out.2.1, HC4.out.2.2.2.2.1.cell _ _ (refs_at HRK.out), BS4.out.cell 0, BS4.out.cell 1, BS4.out.cell 2⟩
          clear hb4 hb4' KD
          go_wp2_with fail
          refine hK.out _ _ ⟨fun _ => C4.out, trivial⟩ (fun hTill => ?_)
          clear hK K
          (try simp only [Act.put, List.getElem_toArray, List.getElem_cons_succ, List.getElem_cons_zero, List.setIfInBounds_toArray, List.set_cons_zero, List.set_cons_succ])
          refine wpL_ready (rs := [16]) (by kernel_rfl) (by simp) ?_
          refine AllL.cons (o := _) rfl (fun K hK => ?_) AllL.nil
          go_simp
          refine HP4.out.mono ?_
          rintro e w5 h5
          rcases h5 with ⟨v5, G5, rd5, rfl, hW5, hE5, hT5, hR5, hP5, a5, hA5⟩ | ⟨hal, rfl, ⟨rd5, hd5⟩, hT5⟩
          rotate_left
          · have HAL := Lib.hid hal
            have HD5 := Lib.hid hd5
            have HT5 := Lib.hid hT5
            clear hal hd5 hT5
            unfold tdied
            go_wp2_with fail
            exact ⟨rfl, .inr ⟨HAL.out, rfl, ⟨rd5, HD5.out⟩, (HTFD.out.below HB4.out).trans HT5.out⟩⟩
          obtain ⟨T5, b5, rfl⟩ := hP5.form h c none
          have HW5 := Lib.hid hW5
          have HE5 := Lib.hid hE5
          have HR5 := Lib.hid hR5
          have HP5 := Lib.hid hP5
          have HT5 : Hid (TFr w w5) := (HTFD.out.below HB4.out).trans hT5
          have HC5 := Lib.hid (HIW.out w5 (((TFr.of_below HBD.out).below HB4.out).trans hT5))
          have BS5 := Lib.hid (hT5.blk BS4.out (by decide) (by decide))
          have BR5 := Lib.hid (hT5.blk (BRD.out.below HB4.out BRD.out.lt) (by decide) (by decide))
          have BX5 := Lib.hid (hT5.blk (BXD.out.below HB4.out BXD.out.lt) (by decide) (by decide))
          have HPX5 := Lib.hid (((HPX.out.below HBD.out).below HB4.out).tfr hT5 hE5)
          have HTP5 := Lib.hid (hT5.tsrc ((HTP.out.below HBD.out).below HB4.out) (by decide) (by decide))
          have HT45 := Lib.hid hT5
          have C5 : Hid (w5.cell? ⟨b, 1, none⟩ = some (.slice (some ⟨bk, ok, none⟩) (n + 1) ca') ∧ w5.cell? ⟨bk, ok + (i + 1), none⟩ = some (.pointer (some ⟨rk, 0, none⟩)) ∧ w5.cell? ⟨gs, 0, none⟩ = some (.string sl) ∧ w5.cell? ⟨gs, 1, none⟩ = some (.string sh) ∧ w5.cell? ⟨gs, 2, none⟩ = some (.bool bn)) :=
            ⟨HC5.out.2.1, HC5.out.2.2.2.2.1.cell _ _ (refs_at HRK.out), BS5.out.cell 0, BS5.out.cell 1, BS5.out.cell 2⟩
          clear hW5 hE5 hR5 hP5 hT5 hA5
          go_wp2_with fail
          refine hK.out _ _ ⟨fun _ => C5.out, trivial⟩ (fun hTill => ?_)
          clear hK K
          (try simp only [Act.put, List.getElem_toArray, List.getElem_cons_succ, List.getElem_cons_zero, List.setIfInBounds_toArray, List.set_cons_zero, List.set_cons_succ])
          refine wpL_ready (rs := [17]) (by kernel_rfl) (by simp) ?_
          refine AllL.cons (o := _) rfl (fun K hK => ?_) AllL.nil
          go_simp
          refine hK.out _ _ ⟨fun h => Bool.noConfusion ((show _ = true by kernel_rfl).symm.trans h), trivial⟩ (fun hTill => ?_)
          clear hK K
          (try simp only [Act.put, List.getElem_toArray, List.getElem_cons_succ, List.getElem_cons_zero, List.setIfInBounds_toArray, List.set_cons_zero, List.set_cons_succ])
          refine wpL_done (by kernel_rfl) ?_ _
          clear hTill
          obtain ⟨ba, oa, hAk, gk⟩ := HC5.out.2.2.2.1.1.at_ _ _ (ks_at HKEY.out)
          subst hAk
          have gv := HTP5.out.1.cell _ _ HV0.out
          rw [Nat.add_zero] at gv
          have D0 := Lib.hid (And.intro HC5.out.1 (And.intro gk (And.intro (BR5.out.cell 1) gv)))
          have KT := Lib.hid (together_any h x c key _ _ w5.drew G5 (HPX5.out.below ((Below.refl _ _).drew)) (HP5.out.below ((Below.refl _ _).drew)) HXH.out (.inl (HFT.out.2.2.2.2 c (List.mem_of_getElem? HC.out))) (HFT.out.2.2.2.1 key (List.mem_of_getElem? HKEY.out)) (by have := Pl.Fit.size h c (HFT.out.2.2.2.2 c (List.mem_of_getElem? HC.out)); have := HX85.out; omega))
          clear gk gv
          go_wp2_with fail
          refine wp_region_L 13 (fun W => W.cell? ⟨b, 0, none⟩ = some (.slice (some ⟨ba, oa, none⟩) n ca) ∧ W.cell? ⟨ba, oa + i, none⟩ = some (.string (tstr key)) ∧ W.cell? ⟨gr, 1, none⟩ = some (.slice (some ⟨b0, o0, none⟩) k cp) ∧ W.cell? ⟨b0, o0, none⟩ = some (.iface Tx (.pointer (some ⟨bx, 0, none⟩)))) (fun _ => True) (by kernel_rfl) D0.out trivial (fun hTill => ?_)
          refine wpL_take' (i := 0) (oi := _) (v := ?_) rfl (by kernel_rfl) (by kernel_rfl) (by kernel_rfl) (by kernel_rfl) (fun _ _ _ h => h) (.inl ⟨by rfl, ?_⟩) (by assumption) ?_
          rotate_left
          · intro W hSw
            (try dsimp only at hSw)
            go_simp
            (try rfl)
          (try simp only [Act.put, List.getElem_toArray, List.getElem_cons_succ, List.getElem_cons_zero, List.setIfInBounds_toArray, List.set_cons_zero, List.set_cons_succ])
          refine wpL_take (i := 1) (oi := _) (v := ?_) rfl (by kernel_rfl) (by kernel_rfl) (by kernel_rfl) (by kernel_rfl) (fun _ _ _ h => h) (.inl ⟨by rfl, ?_⟩) (by assumption) ?_
          rotate_left
          · intro W hSw
            (try dsimp only at hSw)
            go_simp
            (try rfl)
          (try simp only [Act.put, List.getElem_toArray, List.getElem_cons_succ, List.getElem_cons_zero, List.setIfInBounds_toArray, List.set_cons_zero, List.set_cons_succ])
          refine wpL_take' (i := 2) (oi := _) (v := ?_) rfl (by kernel_rfl) (by kernel_rfl) (by kernel_rfl) (by kernel_rfl) (fun _ _ _ h => h) (.inl ⟨by rfl, ?_⟩) (by assumption) ?_
          rotate_left
          · intro W hSw
            (try dsimp only at hSw)
            go_simp
            (try rfl)
          (try simp only [Act.put, List.getElem_toArray, List.getElem_cons_succ, List.getElem_cons_zero, List.setIfInBounds_toArray, List.set_cons_zero, List.set_cons_succ])
          refine wpL_take (i := 3) (oi := _) (v := ?_) rfl (by kernel_rfl) (by kernel_rfl) (by kernel_rfl) (by kernel_rfl) (fun _ _ _ h => h) (.inl ⟨by rfl, ?_⟩) (by assumption) ?_
          rotate_left
          · intro W hSw
            (try dsimp only at hSw)
            go_simp
            (try rfl)
          (try simp only [Act.put, List.getElem_toArray, List.getElem_cons_succ, List.getElem_cons_zero, List.setIfInBounds_toArray, List.set_cons_zero, List.set_cons_succ])
          refine wpL_take' (i := 4) (oi := _) (v := ?_) rfl (by kernel_rfl) (by kernel_rfl) (by kernel_rfl) (by kernel_rfl) (fun _ _ _ h => h) (.inl ⟨by rfl, ?_⟩) (by assumption) ?_
          rotate_left
          · intro W hSw
            (try dsimp only at hSw)
            go_simp
            (try rfl)
          (try simp only [Act.put, List.getElem_toArray, List.getElem_cons_succ, List.getElem_cons_zero, List.setIfInBounds_toArray, List.set_cons_zero, List.set_cons_succ])
          refine wpL_take' (i := 5) (oi := _) (v := ?_) rfl (by kernel_rfl) (by kernel_rfl) (by kernel_rfl) (by kernel_rfl) (fun _ _ _ h => h) (.inl ⟨by rfl, ?_⟩) (by assumption) ?_
          rotate_left
          · intro W hSw
            (try dsimp only at hSw)
            go_simp
            (try rfl)
          (try simp only [Act.put, List.getElem_toArray, List.getElem_cons_succ, List.getElem_cons_zero, List.setIfInBounds_toArray, List.set_cons_zero, List.set_cons_succ])
          refine wpL_take' (i := 6) (oi := _) (v := ?_) rfl (by kernel_rfl) (by kernel_rfl) (by kernel_rfl) (by kernel_rfl) (fun _ _ _ h => h) (.inl ⟨by rfl, ?_⟩) (by assumption) ?_
          rotate_left
          · intro W hSw
            (try dsimp only at hSw)
            go_simp
            (try rfl)
          (try simp only [Act.put, List.getElem_toArray, List.getElem_cons_succ, List.getElem_cons_zero, List.setIfInBounds_toArray, List.set_cons_zero, List.set_cons_succ])
          refine wpL_take (i := 7) (oi := _) (v := ?_) rfl (by kernel_rfl) (by kernel_rfl) (by kernel_rfl) (by kernel_rfl) (fun _ _ _ h => h) (.inl ⟨by rfl, ?_⟩) (by assumption) ?_
          rotate_left
          · intro W hSw
            (try dsimp only at hSw)
            go_simp
            (try rfl)
          (try simp only [Act.put, List.getElem_toArray, List.getElem_cons_succ, List.getElem_cons_zero, List.setIfInBounds_toArray, List.set_cons_zero, List.set_cons_succ])
          refine wpL_take' (i := 8) (oi := _) (v := ?_) rfl (by kernel_rfl) (by kernel_rfl) (by kernel_rfl) (by kernel_rfl) (fun _ _ _ h => h) (.inl ⟨by rfl, ?_⟩) (by assumption) ?_
          rotate_left
          · intro W hSw
            (try dsimp only at hSw)
            go_simp
            (try rfl)
          (try simp only [Act.put, List.getElem_toArray, List.getElem_cons_succ, List.getElem_cons_zero, List.setIfInBounds_toArray, List.set_cons_zero, List.set_cons_succ])
          refine wpL_take' (i := 9) (oi := _) (v := ?_) rfl (by kernel_rfl) (by kernel_rfl) (by kernel_rfl) (by kernel_rfl) (fun _ _ _ h => h) (.inl ⟨by rfl, ?_⟩) (by assumption) ?_
          rotate_left
          · intro W hSw
            (try dsimp only at hSw)
            go_simp
            (try rfl)
          (try simp only [Act.put, List.getElem_toArray, List.getElem_cons_succ, List.getElem_cons_zero, List.setIfInBounds_toArray, List.set_cons_zero, List.set_cons_succ])
          refine wpL_take (i := 10) (oi := _) (v := ?_) rfl (by kernel_rfl) (by kernel_rfl) (by kernel_rfl) (by kernel_rfl) (fun _ _ _ h => h) (.inl ⟨by rfl, ?_⟩) (by assumption) ?_
          rotate_left
          · intro W hSw
            (try dsimp only at hSw)
            go_simp
            (try rfl)
          (try simp only [Act.put, List.getElem_toArray, List.getElem_cons_succ, List.getElem_cons_zero, List.setIfInBounds_toArray, List.set_cons_zero, List.set_cons_succ])
          refine wpL_take' (i := 11) (oi := _) (v := ?_) rfl (by kernel_rfl) (by kernel_rfl) (by kernel_rfl) (by kernel_rfl) (fun _ _ _ h => h) (.inl ⟨by rfl, ?_⟩) (by assumption) ?_
          rotate_left
          · intro W hSw
            (try dsimp only at hSw)
            go_simp
            (try rfl)
          (try simp only [Act.put, List.getElem_toArray, List.getElem_cons_succ, List.getElem_cons_zero, List.setIfInBounds_toArray, List.set_cons_zero, List.set_cons_succ])
          refine wpL_ready (rs := [12]) (by kernel_rfl) (by simp) ?_
          refine AllL.cons (o := _) rfl (fun K hK => ?_) AllL.nil
          go_simp
          refine KT.out.mono ?_
          rintro e w6 ⟨rv6, rfl, hrow, hb6'⟩
          have hb6 : Below w5.heap.size w5 w6 := undrew hb6'
          have HRW6 := Lib.hid hrow
          obtain ⟨Ak6, ck6, Ap6, cp6, vs6, rfl, _⟩ := hrow
          have BR6 := Lib.hid (BR5.out.below hb6 BR5.out.lt)
          have BX6 := Lib.hid (BX5.out.below hb6 BX5.out.lt)
          have BS6 := Lib.hid (BS5.out.below hb6 BS5.out.lt)
          have HW6 := Lib.hid (HW5.out.below hb6)
          have HT6 := Lib.hid (HT5.out.below hb6)
          have HC6 := Lib.hid (HIW.out w6 (((TFr.of_below HBD.out).below HB4.out).trans (HT45.out.below hb6)))
          have D6 : Hid (w6.cell? ⟨b, 0, none⟩ = some (.slice (some ⟨ba, oa, none⟩) n ca) ∧ w6.cell? ⟨ba, oa + i, none⟩ = some (.string (tstr key)) ∧ w6.cell? ⟨gr, 1, none⟩ = some (.slice (some ⟨b0, o0, none⟩) k cp) ∧ w6.cell? ⟨b0, o0, none⟩ = some (.iface Tx (.pointer (some ⟨bx, 0, none⟩)))) := by
            have gv := (HTP5.out.below hb6).1.cell _ _ HV0.out
            rw [Nat.add_zero] at gv
            exact ⟨HC6.out.1, HC6.out.2.2.2.1.1.cell _ _ (ks_at HKEY.out), BR6.out.cell 1, gv⟩
          obtain ⟨x0, x1, y0, y1⟩ := facts2 BR6.out
          clear hb6 hb6' KT
          go_wp2_with fail
          refine hK.out _ _ ⟨fun _ => D6.out, trivial⟩ (fun hTill => ?_)
          clear hK K
          (try simp only [Act.put, List.getElem_toArray, List.getElem_cons_succ, List.getElem_cons_zero, List.setIfInBounds_toArray, List.set_cons_zero, List.set_cons_succ])
          refine wpL_ready (rs := [13]) (by kernel_rfl) (by simp) ?_
          refine AllL.cons (o := _) rfl (fun K hK => ?_) AllL.nil
          go_simp
          refine hK.out _ _ ⟨fun h => Bool.noConfusion ((show _ = true by kernel_rfl).symm.trans h), trivial⟩ (fun hTill => ?_)
          clear hK K
          (try simp only [Act.put, List.getElem_toArray, List.getElem_cons_succ, List.getElem_cons_zero, List.setIfInBounds_toArray, List.set_cons_zero, List.set_cons_succ])
          refine wpL_done (by kernel_rfl) ?_ _
          clear hTill
          go_wp2_with fail
          go_meet
          case rel =>
            have ho := set2_only w6 gr (.slice Ak6 (Pl.together h x key c).2.length ck6) (.slice Ap6 (Pl.together h x key c).1.length cp6)
            have hk := one_kinds BR6.out
            refine ⟨i, i + 2, Pl.together h x key c, G5, rd5, _, _, rfl, by go_num, ?_, HW6.out.only ho hk (by decide) (by decide) (by decide) (by decide) (by decide), HE5.out, HT6.out.since ho (fun x hx e => by have := HLTS.out; omega), HR5.out, ho.blk_ hk BS6.out (by decide), (BR6.out.set_ 0 _).set_ 1 _, row_done BR6.out HRW6.out, ho.blk BX6.out (fun e => HLTS.out.2.2.2 e.symm)⟩
            unfold Pl.spliced
            rw [HX.out]
            simp only
            rw [if_neg hi0, HC.out, HKEY.out]
    case rest =>
      obtain ⟨a, b2, r', G', rd', u0, u1, rfl, rfl, HSPL⟩ := hcut
      obtain ⟨hsp, hW, hE, hT, hR, hBS, hBR, hRW, hBX⟩ := HSPL.out
      obtain ⟨we, hwe, hEE⟩ : ∃ x, x = wc ∧ True := ⟨wc, rfl, trivial⟩
      subst hwe
      have htl : t.2.length = t.1.length + 1 := HFT.out.1
      obtain ⟨sb1, sb2⟩ := spliced_bounds htl (by rw [HN.out]; exact hi') hsp
      obtain ⟨sr1, sr2, sr3, sr4⟩ := spliced_row HFT.out (by rw [HN.out]; exact hi') HBC.out HFEW.out hsp
      have HREP : Hid _ := replaced_eq hsp
      obtain ⟨e, he⟩ : ∃ e, b2 - 1 = e := ⟨_, rfl⟩
      have hb2 : b2 = e + 1 := by omega
      rw [he] at sr1 sr2 HREP
      rw [HN.out] at sb2
      obtain ⟨Kk, hKk⟩ : ∃ l, t.1.take a ++ r'.2 ++ t.1.drop e = l := ⟨_, rfl⟩
      have HKK := Lib.hid hKk
      rw [hKk] at sr1 sr2 HREP
      have HSR1 := Lib.hid sr1
      have HSR2 := Lib.hid sr2
      have HW' := Lib.hid hW
      have HE' := Lib.hid hE
      have HT' := Lib.hid hT
      have HR' := Lib.hid hR
      have hrr := hRW
      obtain ⟨Ak', ck', Ap', cp', vs', ev, hck', hcp', htk', htp', hvl', hve'⟩ := hrr
      injection ev with ev
      have ev := congrArg Array.toList ev
      simp only [List.cons.injEq, and_true] at ev
      obtain ⟨rfl, rfl⟩ := ev
      obtain ⟨j3, hj3⟩ : ∃ k, r'.2.length = k := ⟨_, rfl⟩
      obtain ⟨k3, hk3⟩ : ∃ k, r'.1.length = k := ⟨_, rfl⟩
      rw [hj3] at hBR hck' sr3 sr4
      rw [hk3] at hBR hcp' hvl' sr3
      have HJ3 := Lib.hid hj3
      have HK3 := Lib.hid hk3
      have HIE := Lib.hid (fun (W : World) (hW : Below we.heap.size we W) => HIW0.out W (hT.below hW))
      have HBS' := Lib.hid hBS
      have HBR' := Lib.hid hBR
      have HBX' := Lib.hid hBX
      have HTK' := Lib.hid htk'
      have HTP' := Lib.hid htp'
      have HVL' := Lib.hid hvl'
      have HVE' := Lib.hid hve'
      have hen : e ≤ n := by omega
      have han : a ≤ e := by omega
      obtain ⟨c0, c1, tk, tr⟩ := HIE.out we (Below.refl _ _)
      obtain ⟨ba, oa, hA⟩ := tk.at_off (by
        intro e9
        have : (ksCells t.1).length = n := by unfold ksCells; rw [List.length_map, HN.out]
        rw [e9] at this
        simp at this
        omega)
      subst hA
      obtain ⟨br, orr, hA'⟩ := tr.at_off (by
        intro e9
        have : (refsCells rs).length = n + 1 := by unfold refsCells; rw [List.length_map, HRN.out]
        rw [e9] at this
        simp at this)
      subst hA'
      have q1 : (a : Int) ≤ (n : Int) := by omega
      have q2 : (a : Int) ≤ (ca : Int) := by have := HCAP.out.1; have := HN.out; omega
      have q3 : ((b2 : Int) - 1) = (e : Int) := by omega
      have q4 : (e : Int) ≤ (n : Int) := by omega
      have q5 : (n : Int) ≤ (ca : Int) := by have := HCAP.out.1; have := HN.out; omega
      have q6 : (a : Int) ≤ (n : Int) + 1 := by omega
      have q7 : (a : Int) ≤ (ca' : Int) := by have := HCAP.out.2; have := HRN.out; omega
      have q8 : (b2 : Int) ≤ (n : Int) + 1 := by omega
      have q9 : (n : Int) + 1 ≤ (ca' : Int) := by have := HCAP.out.2; have := HRN.out; omega
      have HSA : Hid (e ≤ n ∧ a ≤ e ∧ b2 = e + 1 ∧ n ≤ 60 ∧ j3 ≤ 3 ∧ k3 = j3 + 1) := ⟨hen, han, hb2, hn60, sr4, sr3⟩
      have HT1 : Hid (∀ W, Below we.heap.size we W → Src W (some ⟨ba, oa, none⟩) (ksCells (t.1.take a))) := fun W hW => by
        have := ((HIE.out W hW).2.2.1.take a).1
        unfold ksCells at this ⊢; rw [List.map_take]; exact this
      have HT2 : Hid (∀ W, Below we.heap.size we W → Src W (some ⟨ba, oa + e, none⟩) (ksCells (t.1.drop e))) := fun W hW => by
        have := ((HIE.out W hW).2.2.1.drop e).1
        unfold ksCells at this ⊢; rw [List.map_drop]; exact this
      have HT3 : Hid (∀ W, Below we.heap.size we W → Src W (some ⟨br, orr, none⟩) (refsCells (rs.take a))) := fun W hW => by
        have := ((HIE.out W hW).2.2.2.take a).1
        unfold refsCells at this ⊢; rw [List.map_take]; exact this
      have HT4 : Hid (∀ W, Below we.heap.size we W → Src W (some ⟨br, orr + b2, none⟩) (refsCells (rs.drop b2))) := fun W hW => by
        have := ((HIE.out W hW).2.2.2.drop b2).1
        unfold refsCells at this ⊢; rw [List.map_drop]; exact this
      obtain ⟨y0, y1, _, _⟩ := facts2 HBR'.out
      have S0 := Lib.hid (show we.cell? ⟨b, 0, none⟩ = some (.slice (some ⟨ba, oa, none⟩) n ca) ∧ we.cell? ⟨gr, 0, none⟩ = some (.slice Ak' j3 ck') from ⟨c0, y0⟩)
      have HSS := Lib.hid (fun (W : World) (hW : Below we.heap.size we W) => (show W.cell? ⟨b, 0, none⟩ = some (.slice (some ⟨ba, oa, none⟩) n ca) ∧ W.cell? ⟨gr, 0, none⟩ = some (.slice Ak' j3 ck') from ⟨(HIE.out W hW).1, (facts2 (HBR'.out.below hW HBR'.out.lt)).1⟩))
      have RN : Hid (Rw 9 1 we.drew we.heap.size (.slice none 0 0) 0 []) := Rw.nil _ _
      clear tk tr c0 y0 hsp hW hE hT hR hBS hBR hRW hBX htl sb1 sb2 sr1 sr2 sr3 sr4 he hb2 hKk hck' hcp' htk' htp' hvl' hve' hj3 hk3 hEE hen han hn0 hi60
      go_upto_region 12 with fail
      go_cut [17] from 97 to 146 (fun s17 wx => Hid (Rw 9 1 wx we.heap.size s17 (a + j3 + (n - e)) (ksCells Kk)) ∧ Hid (Below we.heap.size we wx))
      case first =>
        have hwe : IntKind.i64.wrap (e : Int) = (e : Int) := IntWalk.i64_in _ (by omega)
        have q10 : (a : Int) ≤ (e : Int) := by have := HSA.out; omega
        have hdc : decide (ca = e) = true ∨ decide (ca = e) = false := by cases decide (ca = e) <;> simp
        rcases hdc with hcap | hcap
        · have hcap := of_decide_eq_true hcap
          subst hcap
          have HNL : Hid (∀ (W : World) (A : Option Addr), Src W A (ksCells (t.1.drop ca))) := fun W A => .inl (by
            have : t.1.length ≤ ca := by have := HCAP.out.1; omega
            rw [List.drop_eq_nil_iff.2 this]; rfl)
          go_wp2_with fail
          go_region_held3 (fun W : World => W.cell? ⟨b, 0, none⟩ = some (.slice (some ⟨ba, oa, none⟩) n ca) ∧ W.cell? ⟨gr, 0, none⟩ = some (.slice Ak' j3 ck')) (first | exact S0.out | exact S1.out | exact S2.out | exact S3.out) (first
            | (refine step_rw Tryz.eltString rfl (.tmp 97) (.tmp 103) rfl rfl RN.out (some ⟨ba, oa, none⟩) a ca (ksCells (t.1.take a)) rfl (by rw [ksCells_len, List.length_take, HN.out, Nat.min_eq_left (by have := HSA.out; omega)]) (by exact HT1.out we (Below.refl _ _)) (ksCells_one _) (by have := HSA.out; omega) (by exact Nat.le_refl _) ?_
               intro v2 w2 r2 m2'
               rw [Nat.zero_add, List.nil_append] at r2
               have R2 := Lib.hid r2
               have M2 : Hid (Mv we w2 (.slice none 0 0) v2) := Mv.beforeR (base := 0) (n := 0) (cs := []) ((Below.refl we.heap.size we).drew) m2'
               have HB2 := Lib.hid (Mv.fresh M2.out)
               have S1 := Lib.hid (HSS.out _ HB2.out)
               clear r2 m2')
            | (refine step_rw Tryz.eltString rfl (.tmp 104) (.tmp 106) rfl rfl R2.out Ak' j3 ck' (ksCells r'.2) rfl (by rw [ksCells_len, HJ3.out]) (by exact (HTK'.out.below HB2.out).1) (ksCells_one _) (by have := HSA.out; omega) HB2.out.size ?_
               intro v3 w3' r3 m3'
               have R3 := Lib.hid r3
               have HB3 := Lib.hid (Mv.since HB2.out R2.out m3')
               have S2 := Lib.hid (HSS.out _ HB3.out)
               clear r3 m3')
            | (refine step_rw Tryz.eltString rfl (.tmp 107) (.tmp 114) rfl rfl R3.out _ (n - ca) _ (ksCells (t.1.drop ca)) rfl (by rw [ksCells_len, List.length_drop, HN.out]) (HNL.out _ _) (ksCells_one _) (by have := HSA.out; omega) HB3.out.size ?_
               intro v4 w4 r4 m4'
               have HB4 := Lib.hid (Mv.since HB3.out R3.out m4')
               have S3 := Lib.hid (HSS.out _ HB4.out)
               rw [← ksCells_append, ← ksCells_append, HKK.out] at r4
               have R4 := Lib.hid r4
               clear r4 m4')
            | fail)
          go_wp2_with fail
          go_meet
          case rel => exact ⟨R4, HB4⟩
        · have hcap := of_decide_eq_false hcap
          go_wp2_with fail
          go_region_held3 (fun W : World => W.cell? ⟨b, 0, none⟩ = some (.slice (some ⟨ba, oa, none⟩) n ca) ∧ W.cell? ⟨gr, 0, none⟩ = some (.slice Ak' j3 ck')) (first | exact S0.out | exact S1.out | exact S2.out | exact S3.out) (first
            | (refine step_rw Tryz.eltString rfl (.tmp 97) (.tmp 103) rfl rfl RN.out (some ⟨ba, oa, none⟩) a ca (ksCells (t.1.take a)) rfl (by rw [ksCells_len, List.length_take, HN.out, Nat.min_eq_left (by have := HSA.out; omega)]) (by exact HT1.out we (Below.refl _ _)) (ksCells_one _) (by have := HSA.out; omega) (by exact Nat.le_refl _) ?_
               intro v2 w2 r2 m2'
               rw [Nat.zero_add, List.nil_append] at r2
               have R2 := Lib.hid r2
               have M2 : Hid (Mv we w2 (.slice none 0 0) v2) := Mv.beforeR (base := 0) (n := 0) (cs := []) ((Below.refl we.heap.size we).drew) m2'
               have HB2 := Lib.hid (Mv.fresh M2.out)
               have S1 := Lib.hid (HSS.out _ HB2.out)
               clear r2 m2')
            | (refine step_rw Tryz.eltString rfl (.tmp 104) (.tmp 106) rfl rfl R2.out Ak' j3 ck' (ksCells r'.2) rfl (by rw [ksCells_len, HJ3.out]) (by exact (HTK'.out.below HB2.out).1) (ksCells_one _) (by have := HSA.out; omega) HB2.out.size ?_
               intro v3 w3' r3 m3'
               have R3 := Lib.hid r3
               have HB3 := Lib.hid (Mv.since HB2.out R2.out m3')
               have S2 := Lib.hid (HSS.out _ HB3.out)
               clear r3 m3')
            | (refine step_rw Tryz.eltString rfl (.tmp 107) (.tmp 114) rfl rfl R3.out _ (n - e) _ (ksCells (t.1.drop e)) rfl (by rw [ksCells_len, List.length_drop, HN.out]) (HT2.out _ HB3.out) (ksCells_one _) (by have := HSA.out; omega) HB3.out.size ?_
               intro v4 w4 r4 m4'
               have HB4 := Lib.hid (Mv.since HB3.out R3.out m4')
               have S3 := Lib.hid (HSS.out _ HB4.out)
               rw [← ksCells_append, ← ksCells_append, HKK.out] at r4
               have R4 := Lib.hid r4
               clear r4 m4')
            | fail)
          go_wp2_with fail
          go_meet
          case rel => exact ⟨R4, HB4⟩
      case rest =>
        obtain ⟨HR17, HBF'⟩ := hcut
        obtain ⟨wf, hwf, HR, HBF⟩ : ∃ x, x = wc ∧ Hid (Rw 9 1 x we.heap.size u17 (a + j3 + (n - e)) (ksCells Kk)) ∧ Hid (Below we.heap.size we x) := ⟨wc, rfl, HR17, HBF'⟩
        clear HR17 HBF'
        subst hwf
        obtain ⟨A1, k1, e1, hk1, ht1, _⟩ := HR.out.tsrc
        subst e1
        have HT17 := Lib.hid ht1
        have HK17 := Lib.hid hk1
        have HTT := Lib.hid (fun (W : World) (hW : Below wf.heap.size wf W) => (show W.cell? ⟨b, 1, none⟩ = some (.slice (some ⟨br, orr, none⟩) (n + 1) ca') ∧ W.cell? ⟨gr, 1, none⟩ = some (.slice Ap' k3 cp') from by
          have h9 := HBF.out.trans (hW.mono HBF.out.size)
          exact ⟨(HIE.out W h9).2.1, (facts2 (HBR'.out.below h9 HBR'.out.lt)).2.1⟩))
        have T0 := Lib.hid (HTT.out wf (Below.refl _ _))
        have HT3f := Lib.hid (fun (W : World) (hW : Below wf.heap.size wf W) => HT3.out W (HBF.out.trans (hW.mono HBF.out.size)))
        have HT4f := Lib.hid (fun (W : World) (hW : Below wf.heap.size wf W) => HT4.out W (HBF.out.trans (hW.mono HBF.out.size)))
        have HREF : Hid (∀ W, Below wf.heap.size wf W → Calls Tryz.prog 133 #[.slice Ap' k3 cp'] W fun e w' => ∃ v rs, e = .returned v ∧ Rw 156 1 w' W.heap.size v rs.length (refsCells rs) ∧ Made W w' vs' k3 rs ∧ Below W.heap.size W w') := fun W hW => by
          have h9 := HBF.out.trans (hW.mono HBF.out.size)
          have := refs_any Ap' cp' h vs' r'.1 W G' (HTP'.out.below h9) (by rw [HK3.out]; exact HVL'.out) (by rw [HK3.out]; have := HSA.out; omega) (fun i v t h1 h2 => (HVE'.out i v t h1 h2).below h9)
          rw [HK3.out] at this
          exact this
        have HCF0 := Lib.hid (HREF.out wf.drew ((Below.refl _ _).drew))
        have RN0 : Hid (Rw 156 1 wf.drew wf.heap.size (.slice none 0 0) 0 []) := Rw.nil _ _
        have hwb : IntKind.i64.wrap (b2 : Int) = (b2 : Int) := IntWalk.i64_in _ (by have := HSA.out; omega)
        clear ht1 hk1 S0 RN
        go_upto_region 13 with fail
        go_cut [18] from 116 to 146 (fun s18 wx => ∃ rs', Hid (Rw 156 1 wx wf.heap.size s18 (a + k3 + (n + 1 - b2)) (refsCells (rs.take a ++ rs' ++ rs.drop b2))) ∧ Hid (Below wf.heap.size wf wx) ∧ Hid (Made wf wx vs' k3 rs'))
        case first =>
          have q10 : (a : Int) ≤ (b2 : Int) := by have := HSA.out; omega
          have hdc : decide (ca' = b2) = true ∨ decide (ca' = b2) = false := by cases decide (ca' = b2) <;> simp
          rcases hdc with hcap | hcap
          · have hcap := of_decide_eq_true hcap
            have HNL : Hid (∀ (W : World) (A : Option Addr), Src W A (refsCells (rs.drop b2))) := fun W A => .inl (by
              have : rs.length ≤ b2 := by have := HCAP.out.2; omega
              rw [List.drop_eq_nil_iff.2 this]; rfl)
            subst hcap
            go_wp2_with fail
            go_region_held3 (fun W : World => W.cell? ⟨b, 1, none⟩ = some (.slice (some ⟨br, orr, none⟩) (n + 1) ca') ∧ W.cell? ⟨gr, 1, none⟩ = some (.slice Ap' k3 cp')) (first | exact T0.out | exact T1.out | exact T2.out | exact T3.out | exact T4.out) (first
              | (refine step_rw Tryz.eltRef rfl (.tmp 116) (.tmp 122) rfl rfl RN0.out (some ⟨br, orr, none⟩) a ca' (refsCells (rs.take a)) rfl (by rw [refsCells_len, List.length_take, HRN.out, Nat.min_eq_left (by have := HSA.out; omega)]) (by exact HT3f.out wf (Below.refl _ _)) (refsCells_one _) (by have := HSA.out; omega) (by exact Nat.le_refl _) ?_
                 intro v2 w2 r2 m2'
                 rw [Nat.zero_add, List.nil_append] at r2
                 have R2 := Lib.hid r2
                 have M2 : Hid (Mv wf w2 (.slice none 0 0) v2) := Mv.beforeR (base := 0) (n := 0) (cs := []) ((Below.refl wf.heap.size wf).drew) m2'
                 have HB2 := Lib.hid (Mv.fresh M2.out)
                 have T1 := Lib.hid (HTT.out _ HB2.out)
                 have HCF := Lib.hid (HREF.out w2 HB2.out)
                 clear r2 m2')
              | (go_at_call 133
                 refine HCF.out.mono ?_
                 rintro e3 wj ⟨v3, rs', rfl, r3, hmade, hb3⟩
                 have JA := Lib.hid (R2.out.below hb3)
                 obtain ⟨AB, cB, rfl, _, tB, _⟩ := r3.tsrc
                 have hl3 := hmade.1
                 rw [hl3]
                 have JB := Lib.hid tB.1
                 have JL : Hid (rs'.length = k3) := hl3
                 have JH := Lib.hid (HB2.out.trans (hb3.mono HB2.out.size))
                 have JM := Lib.hid (hmade.low HB2.out.size)
                 have T2 := Lib.hid (HTT.out _ JH.out)
                 clear r3 hmade hb3 tB hl3)
              | (go_at_call 133
                 refine HCF0.out.mono ?_
                 rintro e3 w2 ⟨v3, rs', rfl, r3, hmade, hb3'⟩
                 have hb3 : Below wf.heap.size wf w2 := undrew hb3'
                 obtain ⟨AB, cB, rfl, _, tB, _⟩ := r3.tsrc
                 have hl3 := hmade.1
                 rw [hl3]
                 have TB2 := Lib.hid tB
                 have JL : Hid (rs'.length = k3) := hl3
                 have HB2' := Lib.hid hb3
                 have HM2' : Hid (Made wf w2 vs' k3 rs') := hmade.low (Nat.le_refl _)
                 have RN2 : Hid (Rw 156 1 w2 wf.heap.size (.slice none 0 0) 0 []) := Rw.nil _ _
                 have T1 := Lib.hid (HTT.out _ hb3)
                 clear r3 hmade hb3 hb3' tB hl3)
              | (refine step_rw Tryz.eltRef rfl (.tmp 116) (.tmp 122) rfl rfl RN2.out (some ⟨br, orr, none⟩) a ca' (refsCells (rs.take a)) rfl (by rw [refsCells_len, List.length_take, HRN.out, Nat.min_eq_left (by have := HSA.out; omega)]) (by exact HT3f.out w2 HB2'.out) (refsCells_one _) (by have := HSA.out; omega) HB2'.out.size ?_
                 intro v2 wj r2 m2'
                 rw [Nat.zero_add, List.nil_append] at r2
                 have JA := Lib.hid r2
                 have hfr := Mv.fresh m2'
                 have JB := Lib.hid (TB2.out.below hfr).1
                 have JH := Lib.hid (HB2'.out.trans (hfr.mono HB2'.out.size))
                 have JM := Lib.hid (HM2'.out.only (Only.of_below hfr (fun _ => False)) (kinds_none _) (by simp))
                 have T2 := Lib.hid (HTT.out _ JH.out)
                 clear r2 m2' hfr)
              | (refine step_rw Tryz.eltRef rfl (.tmp 123) (.tmp 126) rfl rfl JA.out AB k3 cB (refsCells rs') rfl (by rw [refsCells_len, JL.out]) (by exact JB.out) (refsCells_one _) (by have := HSA.out; omega) JH.out.size ?_
                 intro v5 w5 r5 m5
                 have R5 := Lib.hid r5
                 have HB5 := Lib.hid (Mv.since JH.out JA.out m5)
                 have HM5 := Lib.hid (JM.out.only m5.only JA.out.kinds' (by decide))
                 have T3 := Lib.hid (HTT.out _ HB5.out)
                 clear r5 m5)
              | (refine step_rw Tryz.eltRef rfl (.tmp 127) (.tmp 133) rfl rfl R5.out _ (n + 1 - ca') _ (refsCells (rs.drop ca')) rfl (by rw [refsCells_len, List.length_drop, HRN.out]) (HNL.out _ _) (refsCells_one _) (by have := HSA.out; omega) HB5.out.size ?_
                 intro v6 w6 r6 m6
                 have HB6 := Lib.hid (Mv.since HB5.out R5.out m6)
                 have HM6 := Lib.hid (HM5.out.only m6.only R5.out.kinds' (by decide))
                 have T4 := Lib.hid (HTT.out _ HB6.out)
                 rw [← refsCells_append, ← refsCells_append] at r6
                 have R6 := Lib.hid r6
                 clear r6 m6)
              | fail)
            all_goals
              go_wp2_with fail
              go_meet
              case rel => exact ⟨rs', R6, HB6, HM6⟩
          · have hcap := of_decide_eq_false hcap
            go_wp2_with fail
            go_region_held3 (fun W : World => W.cell? ⟨b, 1, none⟩ = some (.slice (some ⟨br, orr, none⟩) (n + 1) ca') ∧ W.cell? ⟨gr, 1, none⟩ = some (.slice Ap' k3 cp')) (first | exact T0.out | exact T1.out | exact T2.out | exact T3.out | exact T4.out) (first
              | (refine step_rw Tryz.eltRef rfl (.tmp 116) (.tmp 122) rfl rfl RN0.out (some ⟨br, orr, none⟩) a ca' (refsCells (rs.take a)) rfl (by rw [refsCells_len, List.length_take, HRN.out, Nat.min_eq_left (by have := HSA.out; omega)]) (by exact HT3f.out wf (Below.refl _ _)) (refsCells_one _) (by have := HSA.out; omega) (by exact Nat.le_refl _) ?_
                 intro v2 w2 r2 m2'
                 rw [Nat.zero_add, List.nil_append] at r2
                 have R2 := Lib.hid r2
                 have M2 : Hid (Mv wf w2 (.slice none 0 0) v2) := Mv.beforeR (base := 0) (n := 0) (cs := []) ((Below.refl wf.heap.size wf).drew) m2'
                 have HB2 := Lib.hid (Mv.fresh M2.out)
                 have T1 := Lib.hid (HTT.out _ HB2.out)
                 have HCF := Lib.hid (HREF.out w2 HB2.out)
                 clear r2 m2')
              | (go_at_call 133
                 refine HCF.out.mono ?_
                 rintro e3 wj ⟨v3, rs', rfl, r3, hmade, hb3⟩
                 have JA := Lib.hid (R2.out.below hb3)
                 obtain ⟨AB, cB, rfl, _, tB, _⟩ := r3.tsrc
                 have hl3 := hmade.1
                 rw [hl3]
                 have JB := Lib.hid tB.1
                 have JL : Hid (rs'.length = k3) := hl3
                 have JH := Lib.hid (HB2.out.trans (hb3.mono HB2.out.size))
                 have JM := Lib.hid (hmade.low HB2.out.size)
                 have T2 := Lib.hid (HTT.out _ JH.out)
                 clear r3 hmade hb3 tB hl3)
              | (go_at_call 133
                 refine HCF0.out.mono ?_
                 rintro e3 w2 ⟨v3, rs', rfl, r3, hmade, hb3'⟩
                 have hb3 : Below wf.heap.size wf w2 := undrew hb3'
                 obtain ⟨AB, cB, rfl, _, tB, _⟩ := r3.tsrc
                 have hl3 := hmade.1
                 rw [hl3]
                 have TB2 := Lib.hid tB
                 have JL : Hid (rs'.length = k3) := hl3
                 have HB2' := Lib.hid hb3
                 have HM2' : Hid (Made wf w2 vs' k3 rs') := hmade.low (Nat.le_refl _)
                 have RN2 : Hid (Rw 156 1 w2 wf.heap.size (.slice none 0 0) 0 []) := Rw.nil _ _
                 have T1 := Lib.hid (HTT.out _ hb3)
                 clear r3 hmade hb3 hb3' tB hl3)
              | (refine step_rw Tryz.eltRef rfl (.tmp 116) (.tmp 122) rfl rfl RN2.out (some ⟨br, orr, none⟩) a ca' (refsCells (rs.take a)) rfl (by rw [refsCells_len, List.length_take, HRN.out, Nat.min_eq_left (by have := HSA.out; omega)]) (by exact HT3f.out w2 HB2'.out) (refsCells_one _) (by have := HSA.out; omega) HB2'.out.size ?_
                 intro v2 wj r2 m2'
                 rw [Nat.zero_add, List.nil_append] at r2
                 have JA := Lib.hid r2
                 have hfr := Mv.fresh m2'
                 have JB := Lib.hid (TB2.out.below hfr).1
                 have JH := Lib.hid (HB2'.out.trans (hfr.mono HB2'.out.size))
                 have JM := Lib.hid (HM2'.out.only (Only.of_below hfr (fun _ => False)) (kinds_none _) (by simp))
                 have T2 := Lib.hid (HTT.out _ JH.out)
                 clear r2 m2' hfr)
              | (refine step_rw Tryz.eltRef rfl (.tmp 123) (.tmp 126) rfl rfl JA.out AB k3 cB (refsCells rs') rfl (by rw [refsCells_len, JL.out]) (by exact JB.out) (refsCells_one _) (by have := HSA.out; omega) JH.out.size ?_
                 intro v5 w5 r5 m5
                 have R5 := Lib.hid r5
                 have HB5 := Lib.hid (Mv.since JH.out JA.out m5)
                 have HM5 := Lib.hid (JM.out.only m5.only JA.out.kinds' (by decide))
                 have T3 := Lib.hid (HTT.out _ HB5.out)
                 clear r5 m5)
              | (refine step_rw Tryz.eltRef rfl (.tmp 127) (.tmp 133) rfl rfl R5.out _ (n + 1 - b2) _ (refsCells (rs.drop b2)) rfl (by rw [refsCells_len, List.length_drop, HRN.out]) (HT4f.out _ HB5.out) (refsCells_one _) (by have := HSA.out; omega) HB5.out.size ?_
                 intro v6 w6 r6 m6
                 have HB6 := Lib.hid (Mv.since HB5.out R5.out m6)
                 have HM6 := Lib.hid (HM5.out.only m6.only R5.out.kinds' (by decide))
                 have T4 := Lib.hid (HTT.out _ HB6.out)
                 rw [← refsCells_append, ← refsCells_append] at r6
                 have R6 := Lib.hid r6
                 clear r6 m6)
              | fail)
            all_goals
              go_wp2_with fail
              go_meet
              case rel => exact ⟨rs', R6, HB6, HM6⟩
        case rest =>
          obtain ⟨rs', HR18, HBG', HM18⟩ := hcut
          obtain ⟨wg, hwg, HRR, HBG, HMM⟩ : ∃ x, x = wc ∧ Hid (Rw 156 1 x wf.heap.size u18 (a + k3 + (n + 1 - b2)) (refsCells (rs.take a ++ rs' ++ rs.drop b2))) ∧ Hid (Below wf.heap.size wf x) ∧ Hid (Made wf x vs' k3 rs') := ⟨wc, rfl, HR18, HBG', HM18⟩
          clear HR18 HBG' HM18
          subst hwg
          obtain ⟨A2, k2, e2, hk2, ht2, _⟩ := HRR.out.tsrc
          subst e2
          have htl : t.2.length = n + 1 := by have := HRL.out; have := HRN.out; omega
          have hWf := HW'.out.below HBF.out
          have hml := HMM.out.1
          obtain ⟨i1, i2, i3⟩ := hWf.inv.refs HBG.out (rs := rs') (vs := vs') (ts := r'.1) (by rw [HK3.out]; exact hml) (by rw [HK3.out]; exact HVL'.out) HMM.out.2.1 (fun r hr => (HMM.out.2.2.1 r hr).1) HMM.out.2.2.2 (fun i v t h1 h2 => (HVE'.out i v t h1 h2).below HBF.out)
          obtain ⟨G2, hG2⟩ : ∃ g, G'.kids wf.heap.size h rs' r'.1 = g := ⟨_, rfl⟩
          rw [hG2] at i1 i2 i3
          have HTW : Hid (TW E wg rd' G2) := ⟨hWf.tree.below HBG.out hWf.tree.lt, hWf.disk.below HBG.out, i1, hWf.room, ⟨fun k x hk => by rw [← hG2] at hk; exact (Gh.kids_low hk).elim (hWf.low.g k x) (fun hl => Nat.le_trans hWf.base hl), hWf.low.d, hWf.low.t⟩⟩
          obtain ⟨CS, hCS⟩ : ∃ l, t.2.take a ++ r'.1 ++ t.2.drop b2 = l := ⟨_, rfl⟩
          obtain ⟨RS, hRS⟩ : ∃ l, rs.take a ++ rs' ++ rs.drop b2 = l := ⟨_, rfl⟩
          have hmap : ∀ (i r : Nat) (c : Pl.Tr h), RS[i]? = some r → CS[i]? = some c → G2 r = some ⟨h, c⟩ := by
            rw [← hCS, ← hRS]
            refine kids_append (by rw [List.length_append, List.length_append, List.length_take, List.length_take, HRN.out, htl, hml, HK3.out]) (kids_append (by rw [List.length_take, List.length_take, HRN.out, htl]) (fun i r c h1 h2 => ?_) i3) (fun i r c h1 h2 => ?_)
            · rcases Nat.lt_or_ge i a with hi | hi
              · rw [List.getElem?_take_of_lt hi] at h1 h2
                exact i2 _ _ (HE'.out _ _ (HG.out i r c h1 h2))
              · rw [List.getElem?_eq_none (by rw [List.length_take]; omega)] at h1; cases h1
            · rw [List.getElem?_drop] at h1 h2
              exact i2 _ _ (HE'.out _ _ (HG.out _ r c h1 h2))
          have hRSl : RS.length = a + k3 + (n + 1 - b2) := by rw [← hRS, List.length_append, List.length_append, List.length_take, List.length_drop, HRN.out, hml]; have := HSA.out; omega
          have hCSl : CS.length = a + k3 + (n + 1 - b2) := by rw [← hCS, List.length_append, List.length_append, List.length_take, List.length_drop, htl, HK3.out]; have := HSA.out; omega
          have hKl : Kk.length = a + j3 + (n - e) := by rw [← HKK.out, List.length_append, List.length_append, List.length_take, List.length_drop, HN.out, HJ3.out]; have := HSA.out; omega
          rw [hRS] at ht2
          have HREP2 : Hid (Pl.replaced t.1 t.2 i r = if Kk = [] then (([(([], CS) : List Pl.Key × List (Pl.Tr h))], []) : Pl.Row (h + 1)) else Pl.innerRow Kk CS) := by rw [Hid, HREP.out, hCS]; rfl
          have HT2' := Lib.hid ht2
          have HMAP := Lib.hid hmap
          have HEX := Lib.hid (HE'.out.trans i2)
          have hwe : Below we.heap.size we wg := HBF.out.trans (HBG.out.mono HBF.out.size)
          have HTF2 : Hid (TFr w wg) := HT'.out.below hwe
          have HBX2 := Lib.hid (HBX'.out.below hwe HBX'.out.lt)
          have HLEN : Hid (RS.length = CS.length ∧ CS.length = Kk.length + 1 ∧ RS.length ≤ k2 ∧ Kk.length ≤ k1) := ⟨by omega, by have := HSA.out; omega, by omega, by have := HK17.out; omega⟩
          have HT17' := Lib.hid (HT17.out.below HBG.out)
          obtain ⟨NK, hNK⟩ : ∃ x, a + j3 + (n - e) = x := ⟨_, rfl⟩
          obtain ⟨NR, hNR⟩ : ∃ x, a + k3 + (n + 1 - b2) = x := ⟨_, rfl⟩
          rw [hNK] at hKl ⊢
          rw [hNR] at hRSl ⊢
          have HKL := Lib.hid hKl
          have HRSL := Lib.hid hRSl
          clear htl hWf hml i1 i2 i3 hG2 hCS hRS hmap hRSl hCSl hKl hk2 ht2 hwe hNK hNR HRR HR T0 HTT HCF0 RN0
          by_cases hnk : NK = 0
          · have HKN : Hid (Kk = []) := List.length_eq_zero_iff.1 (by rw [HKL.out]; exact hnk)
            have q1' : ((NK : Int) == 0) = true := by subst hnk; rfl
            clear hnk
            obtain ⟨gi, hgi⟩ : ∃ g, wg.heap.size = g := ⟨_, rfl⟩
            obtain ⟨wi, hwi⟩ : ∃ x, wg.alloc (.cells #[.slice none 0 0, .slice A2 NR k2] 185) = x := ⟨_, rfl⟩
            obtain ⟨gp, hgp⟩ : ∃ g, wi.heap.size = g := ⟨_, rfl⟩
            obtain ⟨wp, hwp⟩ : ∃ x, wi.alloc (.cells #[.iface 180 (.pointer (some ⟨gi, 0, none⟩))] 166) = x := ⟨_, rfl⟩
            have hbi : Below wg.heap.size wg wi := by rw [← hwi]; exact (Below.refl _ _).alloc (Nat.le_refl _) _
            have hbp : Below wi.heap.size wi wp := by rw [← hwp]; exact (Below.refl _ _).alloc (Nat.le_refl _) _
            have hbip := hbi.trans (hbp.mono hbi.size)
            have BI : InnerAt wp gi [] RS := by
              have B0 : Blk wi gi 185 [.slice none 0 0, .slice A2 RS.length k2] := by rw [HRSL.out, ← hwi, ← hgi]; exact Blk.new wg 185 _
              exact ⟨none, 0, A2, k2, B0.below hbp B0.lt, Nat.le_refl _, HLEN.out.2.2.1, TSrc.nil _ _, HT2'.out.below hbip⟩
            have HPI : Hid (PgOk wp G2 (innerV gi) (h + 1) (([], CS) : List Pl.Key × List (Pl.Tr h)) none) := ⟨RS, ⟨gi, rfl, BI⟩, HLEN.out.1, HMAP.out, fun s hs => by cases hs⟩
            have HTP2 : Hid (TSrc wp (some ⟨gp, 0, none⟩) [innerV gi] 166) := ⟨by rw [← hwp, ← hgp]; exact Src.of_blk (Blk.new wi 166 _), fun p hp => by injection hp with hp; subst hp; rw [← hwp, ← hgp]; exact (Blk.new wi 166 _).typ⟩
            have HBXP := Lib.hid (HBX2.out.below hbip HBX2.out.lt)
            have HTWP := Lib.hid (HTW.out.below hbip)
            have HTFP := Lib.hid (HTF2.out.below hbip)
            obtain ⟨x0, x1, z0', z1'⟩ := facts2 HBXP.out
            clear hbi hbp hbip BI
            go_wp2_with fail
            have ho := set2_only wp gx (.slice none 0 0) (.slice (some ⟨gp, 0, none⟩) 1 1)
            have hk := one_kinds HBXP.out
            refine bodyPost_ret (v := .agg #[.slice none 0 0, .slice (some ⟨gp, 0, none⟩) 1 1]) (results_row rfl rfl ((HBXP.out.set_ 0 _).set_ 1 _)) rfl (.inl ⟨_, G2, rd', rfl, HTWP.out.only ho hk (by decide) (by decide) (by decide) (by decide) (by decide), HEX.out, HTFP.out.since ho (fun x hx e => by have := HLTS.out; omega), HR'.out, ?_⟩)
            rw [HREP2.out, if_pos HKN.out]
            refine row_done HBXP.out ⟨none, 0, some ⟨gp, 0, none⟩, 1, [innerV gi], rfl, Nat.le_refl _, Nat.le_refl _, TSrc.nil _ _, HTP2.out, rfl, fun i v t hv ht => ?_⟩
            cases i with
            | zero =>
              obtain rfl : innerV gi = v := by simpa using hv
              have ht' : some (([], CS) : List Pl.Key × List (Pl.Tr h)) = some t := ht
              injection ht' with ht'
              subst ht'
              exact HPI.out
            | succ i => simp at hv
          · have q1' : ((NK : Int) == 0) = false := beq_eq_false_iff_ne.2 (by omega)
            have HKN : Hid (¬ Kk = []) := fun e9 => hnk (by rw [← HKL.out, e9]; rfl)
            clear hnk
            have HIV : Hid (Calls Tryz.prog 186 #[.slice A1 NK k1, .slice A2 NR k2] wg fun e w' => ∃ rv, e = .returned rv ∧ RowAt w' G2 (h + 1) rv (Pl.innerRow Kk CS) ∧ Below wg.heap.size wg w') := by
              have := inners_any A1 A2 k1 k2 Kk RS h CS wg G2 HT17'.out HT2'.out HLEN.out.2.2.2 HLEN.out.2.2.1 HLEN.out.1 HLEN.out.2.1 HMAP.out HSR2.out (fun k hk => (HSR1.out k hk).2)
              rw [HKL.out, HRSL.out] at this
              exact this
            go_wp2_with fail
            refine HIV.out.mono ?_
            rintro e w5 ⟨rv5, rfl, hrow, hb5⟩
            have HRW5 := Lib.hid hrow
            obtain ⟨Ak5, ck5, Ap5, cp5, vs5, rfl, _⟩ := hrow
            have HBX5 := Lib.hid (HBX2.out.below hb5 HBX2.out.lt)
            have HTW5 := Lib.hid (HTW.out.below hb5)
            have HTF5 := Lib.hid (HTF2.out.below hb5)
            obtain ⟨x0, x1, z0', z1'⟩ := facts2 HBX5.out
            clear hb5
            go_wp2_with fail
            have ho := set2_only w5 gx (.slice Ak5 (Pl.innerRow Kk CS).2.length ck5) (.slice Ap5 (Pl.innerRow Kk CS).1.length cp5)
            have hk := one_kinds HBX5.out
            refine bodyPost_ret (v := .agg #[_, _]) (results_row rfl rfl ((HBX5.out.set_ 0 _).set_ 1 _)) rfl (.inl ⟨_, G2, rd', rfl, HTW5.out.only ho hk (by decide) (by decide) (by decide) (by decide) (by decide), HEX.out, HTF5.out.since ho (fun x hx e => by have := HLTS.out; omega), HR'.out, ?_⟩)
            rw [HREP2.out, if_neg HKN.out]
            exact row_done HBX5.out HRW5.out
end Go.Proofs.YtljmklohgpaopaaGreatDoor
