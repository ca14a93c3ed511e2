/- A tree's pages: a kid's span; what may lie there. A tree's calls that are guarded; its sectors. A tree's pages: what a ref leads to. -/
import Derived.Test.YtljmklohgpaopaaGreatDoorMgPlanted10
import Derived.Test.YtljmklohgpaopaaGreatDoorMgPlanted6
set_option linter.unusedVariables false
set_option linter.unusedSimpArgs false

namespace Go.Proofs.YtljmklohgpaopaaGreatDoor
open Go.RowKit
set_option linter.unusedSectionVars false
variable [Inhabited LoT]

theorem results_span {fn : Func} {t : Tmp} {tmps : Array Value} {w : World} {g : Nat} {a b c : Value} (h : fn.results = #[.cell t 178]) (ht : tmps.getD t undef = .pointer (some ⟨g, 0, none⟩)) (hB : Blk w g 178 [a, b, c]) :
    (results fn tmps).run Tryz.prog w = .ok (.agg #[a, b, c]) w := by
  have c0 := hB.cell 0
  have c1 := hB.cell 1
  have c2 := hB.cell 2
  simp only [List.getElem?_cons_succ, List.getElem?_cons_zero] at c0 c1 c2
  simp only [Array.getD_eq_getD_getElem?] at ht
  simp [results, h, ht, go_sem, c0, c1, c2, asAddr]
set_option maxRecDepth 100000 in
set_option maxHeartbeats 1000000 in
theorem kid_any (lo : Pl.Key) (hi : Option Pl.Key) (b : Nat) (ks : List Pl.Key) (rs : List Nat) (i : Nat) (w : World) (h : InnerAt w b ks rs) (hi' : i ≤ ks.length) (hn : ks.length ≤ 1000) :
    Calls Tryz.prog 98 #[spanV lo hi, .pointer (some ⟨b, 0, none⟩), .int .i64 (i : Nat)] w fun e w' => e = .returned (spanV (Pl.kLo lo ks i) (Pl.kHi hi ks i)) ∧ Below w.heap.size w w' := by
  obtain ⟨A, cap, A', cap', hb, hs, _⟩ := h.refs
  obtain ⟨sl, hsl⟩ : ∃ s, tstr lo = s := ⟨_, rfl⟩
  obtain ⟨sh, hsh⟩ : ∃ s, tstr (hi.getD []) = s := ⟨_, rfl⟩
  obtain ⟨w1, hw1⟩ : ∃ w1, w.alloc (.cells #[.string sl, .string sh, .bool hi.isNone] 178) = w1 := ⟨_, rfl⟩
  obtain ⟨w2, hw2⟩ : ∃ w2, w1.alloc (.cells #[.string ⟨#[]⟩, .string ⟨#[]⟩, .bool false] 178) = w2 := ⟨_, rfl⟩
  have hb1 : Below w.heap.size w w1 := by rw [← hw1]; exact (Below.refl _ _).alloc (Nat.le_refl _) _
  have hb2 : Below w1.heap.size w1 w2 := by rw [← hw2]; exact (Below.refl _ _).alloc (Nat.le_refl _) _
  have B1 : Blk w1 w.heap.size 178 [.string sl, .string sh, .bool hi.isNone] := by rw [← hw1]; exact Blk.new w 178 _
  have B2 : Blk w2 w1.heap.size 178 [.string ⟨#[]⟩, .string ⟨#[]⟩, .bool false] := by rw [← hw2]; exact Blk.new w1 178 _
  have B12 := B1.below hb2 B1.lt
  have hb12 := hb1.trans (hb2.mono hb1.size)
  have hne : w.heap.size ≠ w1.heap.size := by have := B1.lt; omega
  have hbl : b < w.heap.size := hb.lt
  have hsr := hs.below hb12
  obtain ⟨c0, _, _, _⟩ := facts2 (hb.below hb12 hb.lt)
  obtain ⟨d0, d1, d2, e0, e1, e2⟩ := facts3' B12
  obtain ⟨p0, p1, p2, q0, q1, q2⟩ := facts3' B2
  obtain ⟨n, hn'⟩ : ∃ n, ks.length = n := ⟨_, rfl⟩
  rw [hn'] at c0 hi' hn
  have HN := Lib.hid hn'
  have HB := Lib.hid hb12
  have HSL := Lib.hid hsl
  have HSH := Lib.hid hsh
  have HB1 := Lib.hid B12
  have HB2 := Lib.hid B2
  obtain ⟨g1, hg1⟩ : ∃ g, w.heap.size = g := ⟨_, rfl⟩
  obtain ⟨g2, hg2⟩ : ∃ g, w1.heap.size = g := ⟨_, rfl⟩
  have HG1 := Lib.hid hg1
  rw [hg1] at d0 d1 d2 e0 e1 e2 HB1 hne hbl
  rw [hg2] at p0 p1 p2 q0 q1 q2 HB2 hne
  obtain ⟨bn, hbn⟩ : ∃ b, hi.isNone = b := ⟨_, rfl⟩
  have HBN := Lib.hid hbn
  rw [hbn] at d2 hw1 HB1
  have hlt2 : Hid (g2 < w2.heap.size ∧ g1 < g2) := ⟨HB2.out.lt, by have := hb1.size; have := B1.lt; omega⟩
  have HBG : Hid (Below g1 w w2) := by rw [Hid, ← HG1.out]; exact HB.out
  have hle2 : g1 ≤ g2 := Nat.le_of_lt hlt2.out.2
  unfold spanV
  rw [hsl, hsh, hbn]
  clear h hs hb hb1 hb2 B1 B2 B12 hb12 hn' hsl hsh hbn
  by_cases hin : i < n
  · obtain ⟨x, hx⟩ : ∃ x, ks[i]? = some x := ⟨_, List.getElem?_eq_getElem (by have := HN.out; omega)⟩
    have HHI : Hid (Pl.kHi hi ks i = some x) := Pl.kHi_get hx
    obtain ⟨b2, off, rfl, g0⟩ := hsr.at_ _ _ (ks_at hx)
    have q4 : (i : Int) < (n : Int) := by omega
    obtain ⟨sx, hsx⟩ : ∃ s, tstr x = s := ⟨_, rfl⟩
    have HSX := Lib.hid hsx
    rw [hsx] at g0
    clear hx hsx
    by_cases hi0 : 0 < i
    · have q3 : (0 : Int) < (i : Int) := by omega
      obtain ⟨y, hy⟩ : ∃ x, ks[i - 1]? = some x := ⟨_, List.getElem?_eq_getElem (by have := HN.out; omega)⟩
      have HLO : Hid (Pl.kLo lo ks i = y) := by have := Pl.kLo_get (lo := lo) hy; rw [Nat.sub_add_cancel hi0] at this; exact this
      have g9 := hsr.cell _ _ (ks_at hy)
      obtain ⟨sy, hsy⟩ : ∃ s, tstr y = s := ⟨_, rfl⟩
      have HSY := Lib.hid hsy
      rw [hsy] at g9
      have q5 : ((i : Int) - 1) = ((i - 1 : Nat) : Int) := by omega
      have q6 : ((i - 1 : Nat) : Int) < (n : Int) := by omega
      clear hy hsy hsr
      go_enter Tryz.func98, Tryz.ntmps98
      go_wp2_with fail
      refine bodyPost_ret (v := .agg #[.string sy, .string sx, .bool false]) (results_span rfl rfl (Blk.set3 (((HB2.out.far hne.symm _).far hne.symm _).far hne.symm _) _ _ _)) rfl ⟨by rw [HLO.out, HHI.out]; simp [HSY.out, HSX.out], ?_⟩
      first | exact below_set3 (((HBG.out.setCell (p := ⟨g1, 0, none⟩) (Nat.le_refl _) _).setCell (p := ⟨g1, 1, none⟩) (Nat.le_refl _) _).setCell (p := ⟨g1, 2, none⟩) (Nat.le_refl _) _) hle2 (.string sy) (.string sx) (.bool false) | (rw [HG1.out]; exact below_set3 (((HBG.out.setCell (p := ⟨g1, 0, none⟩) (Nat.le_refl _) _).setCell (p := ⟨g1, 1, none⟩) (Nat.le_refl _) _).setCell (p := ⟨g1, 2, none⟩) (Nat.le_refl _) _) hle2 (.string sy) (.string sx) (.bool false))
    · have q3 : ¬ (0 : Int) < (i : Int) := by omega
      have HLO : Hid (Pl.kLo lo ks i = lo) := by obtain rfl : i = 0 := by omega
                                                 exact Pl.kLo_zero lo ks
      clear hsr
      go_enter Tryz.func98, Tryz.ntmps98
      go_wp2_with fail
      refine bodyPost_ret (v := .agg #[.string sl, .string sx, .bool false]) (results_span rfl rfl (Blk.set3 ((HB2.out.far hne.symm _).far hne.symm _) _ _ _)) rfl ⟨by rw [HLO.out, HHI.out]; simp [HSL.out, HSX.out], ?_⟩
      first | exact below_set3 ((HBG.out.setCell (p := ⟨g1, 1, none⟩) (Nat.le_refl _) _).setCell (p := ⟨g1, 2, none⟩) (Nat.le_refl _) _) hle2 (.string sl) (.string sx) (.bool false) | (rw [HG1.out]; exact below_set3 ((HBG.out.setCell (p := ⟨g1, 1, none⟩) (Nat.le_refl _) _).setCell (p := ⟨g1, 2, none⟩) (Nat.le_refl _) _) hle2 (.string sl) (.string sx) (.bool false))
  · have HHI : Hid (Pl.kHi hi ks i = hi) := Pl.kHi_end (by have := HN.out; omega)
    have q4 : ¬ (i : Int) < (n : Int) := by omega
    by_cases hi0 : 0 < i
    · have q3 : (0 : Int) < (i : Int) := by omega
      obtain ⟨y, hy⟩ : ∃ x, ks[i - 1]? = some x := ⟨_, List.getElem?_eq_getElem (by have := HN.out; omega)⟩
      have HLO : Hid (Pl.kLo lo ks i = y) := by have := Pl.kLo_get (lo := lo) hy; rw [Nat.sub_add_cancel hi0] at this; exact this
      obtain ⟨b2, off, rfl, g9⟩ := hsr.at_ _ _ (ks_at hy)
      obtain ⟨sy, hsy⟩ : ∃ s, tstr y = s := ⟨_, rfl⟩
      have HSY := Lib.hid hsy
      rw [hsy] at g9
      have q5 : ((i : Int) - 1) = ((i - 1 : Nat) : Int) := by omega
      have q6 : ((i - 1 : Nat) : Int) < (n : Int) := by omega
      clear hy hsy hsr
      go_enter Tryz.func98, Tryz.ntmps98
      go_wp2_with fail
      refine bodyPost_ret (v := .agg #[.string sy, .string sh, .bool bn]) (results_span rfl rfl (Blk.set3 (HB2.out.far hne.symm _) _ _ _)) rfl ⟨by rw [HLO.out, HHI.out]; simp [HSY.out, HSH.out, HBN.out], ?_⟩
      first | exact below_set3 (HBG.out.setCell (p := ⟨g1, 0, none⟩) (Nat.le_refl _) _) hle2 (.string sy) (.string sh) (.bool bn) | (rw [HG1.out]; exact below_set3 (HBG.out.setCell (p := ⟨g1, 0, none⟩) (Nat.le_refl _) _) hle2 (.string sy) (.string sh) (.bool bn))
    · have q3 : ¬ (0 : Int) < (i : Int) := by omega
      have HLO : Hid (Pl.kLo lo ks i = lo) := by obtain rfl : i = 0 := by omega
                                                 exact Pl.kLo_zero lo ks
      clear hsr
      go_enter Tryz.func98, Tryz.ntmps98
      go_wp2_with fail
      refine bodyPost_ret (v := .agg #[.string sl, .string sh, .bool bn]) (results_span rfl rfl (Blk.set3 (HB2.out) _ _ _)) rfl ⟨by rw [HLO.out, HHI.out]; simp [HSL.out, HSH.out, HBN.out], ?_⟩
      first | exact below_set3 (HBG.out) hle2 (.string sl) (.string sh) (.bool bn) | (rw [HG1.out]; exact below_set3 (HBG.out) hle2 (.string sl) (.string sh) (.bool bn))
/-- The key ahead of one. -/
def lastK (ks : List Pl.Key) : Nat → Pl.Key
  | 0 => []
  | k + 1 => ks.getD k []
theorem lastK_lt {ks : List Pl.Key} (h : ks.Pairwise (· < ·)) (h0 : ∀ x ∈ ks, 1 ≤ x.length) {k : Nat} {x : Pl.Key} (hx : ks[k]? = some x) : lastK ks k < x := by
  cases k with
  | zero =>
    have := h0 x (List.mem_of_getElem? hx)
    cases x with
    | nil => simp at this
    | cons a r => exact List.nil_lt_cons a r
  | succ k =>
    obtain ⟨hlt, rfl⟩ := List.getElem?_eq_some_iff.1 hx
    show ks.getD k [] < _
    rw [List.getD_eq_getElem?_getD, List.getElem?_eq_getElem (by omega), Option.getD_some]
    exact List.pairwise_iff_getElem.1 h k (k + 1) (by omega) hlt (by omega)
theorem lastK_succ {ks : List Pl.Key} {k : Nat} {x : Pl.Key} (hx : ks[k]? = some x) : lastK ks (k + 1) = x := by
  show ks.getD k [] = x
  rw [List.getD_eq_getElem?_getD, hx]; rfl
set_option maxRecDepth 100000 in
set_option maxHeartbeats 2000000 in
theorem right_leaf (b n : Nat) (ps : List Pl.Pr) (lo : Pl.Key) (hi : Option Pl.Key) (root : Bool) (w : World) (h : LeafAt w b ps) (hf : ∀ p ∈ ps, Pl.PrFit p) (hs : Pl.Spn 0 lo hi ps) (hr : root = true ∨ ps ≠ []) (hl : ps.length ≤ 1000) :
    Calls Tryz.prog 136 #[leafV b, spanV lo hi, .bool root, .int .i64 (n : Nat)] w fun e w' => e = .returned (.bool true) ∧ Below w.heap.size w w' := by
  obtain ⟨A, cap, hb, hc, hsr⟩ := h
  obtain ⟨sl, hsl⟩ : ∃ s, tstr lo = s := ⟨_, rfl⟩
  obtain ⟨sh, hsh⟩ : ∃ s, tstr (hi.getD []) = s := ⟨_, rfl⟩
  obtain ⟨bn, hbn⟩ : ∃ b, hi.isNone = b := ⟨_, rfl⟩
  have HAS := Lib.hid (fun (k : Pl.Key) (W : World) (hk : Pl.InS lo hi k) => has_any lo hi k W hk)
  unfold spanV at HAS ⊢
  rw [hsl, hsh, hbn] at HAS ⊢
  obtain ⟨w1, hw1⟩ : ∃ w1, w.alloc (.cells #[.string sl, .string sh, .bool bn] 178) = w1 := ⟨_, rfl⟩
  have hb1 : Below w.heap.size w w1 := by rw [← hw1]; exact (Below.refl _ _).alloc (Nat.le_refl _) _
  have B1 : Blk w1 w.heap.size 178 [.string sl, .string sh, .bool bn] := by rw [← hw1]; exact Blk.new w 178 _
  obtain ⟨g1, hg1⟩ : ∃ g, w.heap.size = g := ⟨_, rfl⟩
  rw [hg1] at B1
  have HG1 := Lib.hid hg1
  obtain ⟨m, hm⟩ : ∃ m, ps.length = m := ⟨_, rfl⟩
  have HM := Lib.hid hm
  have HB1 := Lib.hid B1
  have HB := Lib.hid hb1
  have HSR := Lib.hid (hsr.below hb1)
  have HF := Lib.hid hf
  have HSP := Lib.hid hs
  have HBL := Lib.hid (hb.below hb1 hb.lt)
  obtain ⟨c0, _⟩ := facts1 HBL.out
  rw [hm] at c0 hl
  have HR : Hid (root = false → 0 < m) := fun e => by
    rcases hr with hr | hr
    · rw [hr] at e; cases e
    · have := List.length_pos_iff.2 hr; omega
  have HST := Lib.hid hw1
  unfold leafV
  have hm1 : ∀ (W : World), (Instr.typeAssert (.iface 161 (.pointer (some ⟨b, 0, none⟩))) 166 161 true).run Tryz.prog W = .ok (.tuple #[.pointer (some ⟨b, 0, none⟩), .bool true]) W := fun W => by kernel_rfl
  clear hb hc hsr hsl hsh hbn hb1 B1 hm hf hs hr
  go_enter Tryz.func136, Tryz.ntmps136
  go_wp2_with fail
  go_loopw [9, 27] (fun l i wr => ∃ k : Nat, k ≤ m ∧ i = .int .i64 (k : Int) ∧ l = .string (tstr (lastK (ps.map (·.key)) k)) ∧ Hid (Below w1.heap.size w1 wr)) (fun _ i _ => m - (intOf i).toNat)
  case atStart => exact ⟨0, Nat.zero_le _, rfl, rfl, Below.refl _ _⟩
  case round =>
    obtain ⟨k, hk, rfl, rfl, HBE⟩ := hrel
    by_cases hkm : k < m
    · have q1 : (k : Int) < (m : Int) := by omega
      obtain ⟨p, hp⟩ : ∃ p, ps[k]? = some p := ⟨_, List.getElem?_eq_getElem (by rw [HM.out]; exact hkm)⟩
      have hpm := List.mem_of_getElem? hp
      have at_ := flat_at (f := prCells) (s := 2) (fun _ => rfl) ps k p hp
      have hsr := HSR.out.below HBE.out
      obtain ⟨b2, off, rfl, g0⟩ := hsr.1.at_ _ _ (at_ 0 (by omega))
      have g1' := hsr.1.cell _ _ (at_ 1 (by omega))
      rw [← Nat.add_assoc] at g1'
      rw [Nat.add_zero] at g0
      have hkx : (ps.map (·.key))[k]? = some p.key := by rw [List.getElem?_map, hp]; rfl
      have hlast : lastK (ps.map (·.key)) k < p.key := lastK_lt (by rw [List.pairwise_map]; exact HSP.out.1) (fun x hx => by
        obtain ⟨q, hq, rfl⟩ := List.mem_map.1 hx
        exact (HF.out q hq).1.1) hkx
      have l1 := str_leq p.key (lastK (ps.map (·.key)) k)
      rw [decide_eq_true hlast] at l1
      have K1 := Lib.hid (fun W => treeKey_any p.key W (HF.out p hpm).1)
      have K2 := Lib.hid (fun W => treeVal_any p.val W (HF.out p hpm).2)
      have K3 := Lib.hid (fun W => HAS.out p.key W (HSP.out.2 p hpm))
      have HLS : Hid (lastK (ps.map (·.key)) (k + 1) = p.key) := lastK_succ hkx
      obtain ⟨ll, hll⟩ : ∃ l, tstr (lastK (ps.map (·.key)) k) = l := ⟨_, rfl⟩
      rw [hll] at l1 ⊢
      obtain ⟨sk, hsk⟩ : ∃ s, tstr p.key = s := ⟨_, rfl⟩
      obtain ⟨sv, hsv⟩ : ∃ s, tstr p.val = s := ⟨_, rfl⟩
      rw [hsk] at l1 K1 K3 g0
      rw [hsv] at K2 g1'
      have HSK := Lib.hid hsk
      have lt := List.mem_of_getElem? hp
      simp only [Bool.not_true] at l1
      obtain ⟨d0, d1, d2, _, _, _⟩ := facts3' (HB1.out.below HBE.out HB1.out.lt)
      clear hp hpm at_ hsr hkx hlast hll hsk hsv lt
      obtain ⟨gp, hgp⟩ : ∃ g, wr.heap.size = g := ⟨_, rfl⟩
      obtain ⟨wb, hwb⟩ : ∃ wb, wr.alloc (.cells #[.string sk, .string sv] 175) = wb := ⟨_, rfl⟩
      have BB : Blk wb gp 175 [.string sk, .string sv] := by rw [← hwb, ← hgp]; exact Blk.new wr 175 _
      have hbb : Below wr.heap.size wr wb := by rw [← hwb]; exact (Below.refl _ _).alloc (Nat.le_refl _) _
      have HBB := Lib.hid BB
      have hbe := HBE.out.trans (hbb.mono HBE.out.size)
      have HBE2 := Lib.hid hbe
      obtain ⟨e0, e1, _, _⟩ := facts2 BB
      obtain ⟨d0, d1, d2, _, _, _⟩ := facts3' (HB1.out.below HBE2.out HB1.out.lt)
      clear BB hbb hbe
      go_wp2_with fail
      refine (K1.out _).mono ?_
      rintro e w3 ⟨rfl, rfl⟩
      go_wp2_with fail
      refine (K2.out _).mono ?_
      rintro e w3 ⟨rfl, rfl⟩
      go_wp2_with fail
      refine (K3.out _).mono ?_
      rintro e w3 ⟨rfl, hb3⟩
      have HBE3 := Lib.hid (HBE2.out.trans (hb3.mono HBE2.out.size))
      obtain ⟨e0, e1, _, _⟩ := facts2 (HBB.out.below hb3 HBB.out.lt)
      clear hb3
      go_wp2_with fail
      exact ⟨⟨k + 1, by omega, by go_num, by rw [HLS.out, HSK.out], HBE3⟩, by simp [intOf]; omega⟩
    · obtain rfl : k = m := by omega
      have HBE2 := Lib.hid (HB.out.trans (HBE.out.mono HB.out.size))
      obtain ⟨c0, _⟩ := facts1 (HBL.out.below HBE.out HBL.out.lt)
      rw [HM.out] at c0
      cases root with
      | true =>
        go_wp2_with fail
        go_ret
        exact ⟨rfl, by first | exact HBE2.out | (rw [← HG1.out]; exact HBE2.out)⟩
      | false =>
        have q2 := HR.out rfl
        have q3 : (0 : Int) < (k : Int) := by omega
        go_wp2_with fail
        go_ret
        exact ⟨by first | rfl | simp [q3], by first | exact HBE2.out | (rw [← HG1.out]; exact HBE2.out)⟩
set_option maxRecDepth 100000 in
set_option maxHeartbeats 2000000 in
theorem right_inner (b n : Nat) (ks : List Pl.Key) (rs ats : List Nat) (lo : Pl.Key) (hi : Option Pl.Key) (root : Bool) (w : World) (h : InnerAt w b ks rs) (hk : ∀ k ∈ ks, Pl.KeyFit k) (hs : ks.Pairwise (· < ·)) (hin : ∀ k ∈ ks, lo < k ∧ Pl.Below_ hi k) (h0 : ks ≠ []) (ha : AtsAre w rs ats) (hat : ∀ a ∈ ats, 2 ≤ a ∧ a < n) (hl : ks.length ≤ 1000) (hrl : rs.length = ks.length + 1) :
    Calls Tryz.prog 136 #[innerV b, spanV lo hi, .bool root, .int .i64 (n : Nat)] w fun e w' => e = .returned (.bool true) ∧ Below w.heap.size w w' := by
  obtain ⟨A, cap, A', cap', hb, hsr, hsr'⟩ := h.refs
  obtain ⟨sl, hsl⟩ : ∃ s, tstr lo = s := ⟨_, rfl⟩
  obtain ⟨sh, hsh⟩ : ∃ s, tstr (hi.getD []) = s := ⟨_, rfl⟩
  obtain ⟨bn, hbn⟩ : ∃ b, hi.isNone = b := ⟨_, rfl⟩
  have HAS := Lib.hid (fun (k : Pl.Key) (W : World) (hk : Pl.InS lo hi k) => has_any lo hi k W hk)
  unfold spanV at HAS ⊢
  rw [hsl, hsh, hbn] at HAS ⊢
  obtain ⟨w1, hw1⟩ : ∃ w1, w.alloc (.cells #[.string sl, .string sh, .bool bn] 178) = w1 := ⟨_, rfl⟩
  have hb1 : Below w.heap.size w w1 := by rw [← hw1]; exact (Below.refl _ _).alloc (Nat.le_refl _) _
  have B1 : Blk w1 w.heap.size 178 [.string sl, .string sh, .bool bn] := by rw [← hw1]; exact Blk.new w 178 _
  obtain ⟨g1, hg1⟩ : ∃ g, w.heap.size = g := ⟨_, rfl⟩
  rw [hg1] at B1
  have HG1 := Lib.hid hg1
  obtain ⟨m, hm⟩ : ∃ m, ks.length = m := ⟨_, rfl⟩
  have HM := Lib.hid hm
  have HB1 := Lib.hid B1
  have HB := Lib.hid hb1
  have HSR := Lib.hid (hsr.below hb1)
  have HSR' := Lib.hid (hsr'.below hb1)
  have HF := Lib.hid hk
  have HSP := Lib.hid hs
  have HIN := Lib.hid hin
  have HA := Lib.hid (ha.below hb1)
  have HAT := Lib.hid hat
  have HBL := Lib.hid (hb.below hb1 hb.lt)
  have HSL := Lib.hid hsl
  obtain ⟨c0, c1, _, _⟩ := facts2 HBL.out
  rw [hm] at c0 hl
  rw [hrl, hm] at c1
  have HRL : Hid (rs.length = m + 1) := by rw [Hid, hrl, hm]
  have q0 : 0 < m := by have := List.length_pos_iff.2 h0; omega
  have HST := Lib.hid hw1
  unfold innerV
  have hm1 : ∀ (W : World), (Instr.typeAssert (.iface 180 (.pointer (some ⟨b, 0, none⟩))) 166 161 true).run Tryz.prog W = .ok (.tuple #[.pointer none, .bool false]) W := fun W => by kernel_rfl
  have hm2 : ∀ (W : World), (Instr.typeAssert (.iface 180 (.pointer (some ⟨b, 0, none⟩))) 166 180 true).run Tryz.prog W = .ok (.tuple #[.pointer (some ⟨b, 0, none⟩), .bool true]) W := fun W => by kernel_rfl
  clear hb hsr hsr' hsl hsh hbn hb1 B1 hm hk hs hin ha hat h hrl
  go_enter Tryz.func136, Tryz.ntmps136
  go_wp2_with fail
  go_loopw [9, 74] (fun l i wr => ∃ k : Nat, k ≤ m ∧ i = .int .i64 (k : Int) ∧ l = .string (tstr (lastK ks k)) ∧ Hid (Below w1.heap.size w1 wr)) (fun _ i _ => m - (intOf i).toNat)
  case atStart => exact ⟨0, Nat.zero_le _, rfl, rfl, Below.refl _ _⟩
  case round =>
    obtain ⟨k, hk, rfl, rfl, HBE⟩ := hrel
    by_cases hkm : k < m
    · have q1 : (k : Int) < (m : Int) := by omega
      obtain ⟨p, hp⟩ : ∃ p, ks[k]? = some p := ⟨_, List.getElem?_eq_getElem (by rw [HM.out]; exact hkm)⟩
      have hpm := List.mem_of_getElem? hp
      obtain ⟨b2, off, rfl, g0⟩ := (HSR.out.below HBE.out).at_ _ _ (ks_at hp)
      have hlast : lastK ks k < p := lastK_lt HSP.out (fun x hx => (HF.out x hx).1) hp
      have l1 := str_leq p (lastK ks k)
      rw [decide_eq_true hlast] at l1
      have hpi := HIN.out p hpm
      have l2 := str_leq p lo
      rw [decide_eq_true hpi.1, HSL.out] at l2
      have K1 := Lib.hid (fun W => treeKey_any p W (HF.out p hpm))
      have K3 := Lib.hid (fun W => HAS.out p W ⟨Pl.kasymm hpi.1, hpi.2⟩)
      have HLS : Hid (lastK ks (k + 1) = p) := lastK_succ hp
      obtain ⟨ll, hll⟩ : ∃ l, tstr (lastK ks k) = l := ⟨_, rfl⟩
      rw [hll] at l1 ⊢
      obtain ⟨sk, hsk⟩ : ∃ s, tstr p = s := ⟨_, rfl⟩
      rw [hsk] at l1 l2 K1 K3 g0
      have HSK := Lib.hid hsk
      simp only [Bool.not_true] at l1 l2
      obtain ⟨d0, d1, d2, _, _, _⟩ := facts3' (HB1.out.below HBE.out HB1.out.lt)
      clear hp hpm hlast hll hsk hpi
      go_wp2_with fail
      refine (K1.out _).mono ?_
      rintro e w3 ⟨rfl, rfl⟩
      go_wp2_with fail
      refine (K3.out _).mono ?_
      rintro e w3 ⟨rfl, hb3⟩
      have HBE3 := Lib.hid (HBE.out.trans (hb3.mono HBE.out.size))
      clear hb3
      go_wp2_with fail
      exact ⟨⟨k + 1, by omega, by go_num, by rw [HLS.out, HSK.out], HBE3⟩, by simp [intOf]; omega⟩
    · obtain rfl : k = m := by omega
      have HBE2 := Lib.hid (HB.out.trans (HBE.out.mono HB.out.size))
      obtain ⟨c0, c1, _, _⟩ := facts2 (HBL.out.below HBE.out HBL.out.lt)
      rw [HM.out] at c0
      rw [HRL.out] at c1
      have HA2 := Lib.hid (HA.out.below HBE.out)
      have HS2 := Lib.hid (HSR'.out.below HBE.out)
      go_wp2_with fail
      go_loop [105] (fun i => ∃ j : Nat, j ≤ k + 1 ∧ i = .int .i64 (j : Int)) (fun i => k + 1 - (intOf i).toNat)
      case atStart => exact ⟨0, Nat.zero_le _, rfl⟩
      case round =>
        obtain ⟨j, hj, rfl⟩ := hrel
        by_cases hjm : j < k + 1
        · have q1 : (j : Int) < (k : Int) + 1 := by omega
          obtain ⟨r, hr⟩ : ∃ r, rs[j]? = some r := ⟨_, List.getElem?_eq_getElem (by rw [HRL.out]; exact hjm)⟩
          obtain ⟨a, ha⟩ : ∃ a, ats[j]? = some a := ⟨_, List.getElem?_eq_getElem (by have := HA2.out.1; have := HRL.out; omega)⟩
          obtain ⟨b2, off, rfl, g0⟩ := HS2.out.at_ _ _ (refs_at hr)
          unfold refV at g0
          obtain ⟨pv, HV⟩ := HA2.out.2 j r a hr ha
          obtain ⟨e3, _, _, _⟩ := facts2 HV
          have hab := HAT.out a (List.mem_of_getElem? ha)
          have q5 : ¬ (a : Int) < 2 := by omega
          have q6 : ¬ (n : Int) ≤ (a : Int) := by omega
          have q7 : decide ((a : Int) < 2) = false := decide_eq_false q5
          have q8 : decide ((n : Int) ≤ (a : Int)) = false := decide_eq_false q6
          clear hr ha HV hab
          go_wp2_with fail
          go_round
          case rel => exact ⟨j + 1, by omega, by simp⟩
          case measure => simp [intOf]; omega
        · go_wp2_with fail
          go_ret
          exact ⟨by first | rfl | simp [q0], by first | exact HBE2.out | (rw [← HG1.out]; exact HBE2.out)⟩
end Go.Proofs.YtljmklohgpaopaaGreatDoor

namespace Go.Proofs.YtljmklohgpaopaaGreatDoor
open Go.RowKit
set_option linter.unusedSectionVars false
variable [Inhabited LoT]

def tfaultV (v : Value) : Value := .iface 232 (.agg #[v])
def tfaultE (v : Value) : PanicEntry := { v := tfaultV v, recovered := false }

theorem run_assert_tfault (v : Value) (w : World) : (Instr.typeAssert (.iface 232 v) 20 232 true).run Tryz.prog w = .ok (.tuple #[v, .bool true]) w := by
  simp [Instr.typeAssert, run_underlying Tryz.underlying232, go_sem, Result.andThen]

set_option maxHeartbeats 1000000 in
theorem treeCatch_panicking (p : Addr) (T : TypeId) (y : Value) (older : List PanicEntry) (w : World) (hc : w.cell? p = some .nilIface) (hz : w.frozen? p = false) :
    CallsD Tryz.prog 124 #[.pointer (some p)] (.panicking (tfaultE (.iface T y) :: older)) w fun e u' w' =>
      e = .returned (.tuple #[]) ∧ u' = .panicking ({ v := tfaultV (.iface T y), recovered := true } :: older) ∧ w' = (w.alloc (.cells #[.iface T y] 232)).setCell p (.iface T y) := by
  have hb := (Below.refl w.heap.size w).alloc (Nat.le_refl _) (.cells #[.iface T y] 232)
  have hlt := World.block_lt_of_cell? _ _ hc
  have hc' := (hb.cell hlt).trans hc
  have hz' := (hb.frozen hlt).trans hz
  clear hb
  refine callsD_of_wpS Tryz.func124 rfl fun c₀ cs hu => ?_
  unfold tfaultE tfaultV at hu
  apply wpS_seq
  apply wpS_region
  simp [wpOpsS, go_sem, recoverD, hu, Tryz.ntmps124, Exit.thenS]
  apply wpS_seq
  apply wpS_region
  simp [wpOpsS, go_sem, Exit.thenS]
  refine wpS_cond (t := true) (by simp [Act.eval, Array.replicate]) ?_
  simp only [if_true]
  apply wpS_seq
  apply wpS_region
  simp [wpOpsS, go_sem, Exit.thenS, run_assert_tfault]
  apply wpS_seq
  apply wpS_seq
  apply wpS_region
  simp [wpOpsS, go_sem, Exit.thenS]
  refine wpS_cond (t := false) (by simp [Act.eval, Array.replicate]) ?_
  simp only [Bool.false_eq_true, if_false]
  refine wpS_of_wp (wp_skip ?_)
  simp only [Exit.thenS]
  apply wpS_region
  simp [wpOpsS, go_sem, hc', hz', bodyPostS, results, Tryz.results124]
  rfl

set_option maxHeartbeats 1000000 in
theorem treeCatch_idle (p : Addr) (w : World) :
    CallsD Tryz.prog 124 #[.pointer (some p)] .returning w fun e u' w' => e = .returned (.tuple #[]) ∧ u' = .returning ∧ w' = w := by
  refine callsD_of_wpS Tryz.func124 rfl fun c₀ cs hu => ?_
  apply wpS_seq
  apply wpS_region
  simp [wpOpsS, go_sem, recoverD, hu, Tryz.ntmps124, Exit.thenS]
  apply wpS_seq
  apply wpS_region
  simp [wpOpsS, go_sem, Exit.thenS]
  refine wpS_cond (t := false) (by simp [Act.eval, Array.replicate]) ?_
  simp only [Bool.false_eq_true, if_false]
  refine wpS_of_wp (wp_skip ?_)
  cases c₀
  simp_all [bodyPostS, results, Tryz.results124]

set_option maxRecDepth 100000 in
/-- A call that is guarded: the body's end, told by Q (nothing, or the fault's error); the error's cell lies at the world's end. -/
theorem tguarded_any (K : FuncId) (caps : Array Value) (w : World) (Q : Option Value → World → Prop) (hK : ∀ W, (callFunc K caps).run Tryz.prog W = .ok (.enter K caps) W)
    (h : Calls Tryz.prog K caps (w.alloc (.cells #[.nilIface] 83)) fun e w' => Blk w' w.heap.size 83 [.nilIface] ∧ ((e = .returned (.tuple #[]) ∧ Q none w') ∨ ∃ T y, e = .panicked [tfaultE (.iface T y)] ∧ Q (some (.iface T y)) w')) :
    Calls Tryz.prog 77 #[.func (.func K) #[] caps] w fun e w'' => ∃ o w', Q o w' ∧ Only (· = w.heap.size) w' w'' ∧ e = .returned (o.getD .nilIface) := by
  have hmf : ∀ (fn : Fn) (first cap : Array Value) (w : World), (Instr.makeFunc fn first cap).run Tryz.prog w = .ok (.func fn first cap) w := fun _ _ _ _ => rfl
  have H := Lib.hid h
  clear h
  go_enter_defers Tryz.func77, Tryz.ntmps77
  go_wp2_with fail
  refine H.out.mono ?_
  rintro e w' ⟨hB, ⟨rfl, hQ⟩ | ⟨T, y, rfl, hQ⟩⟩
  · have hc := hB.cell 0
    have hf := hB.frozen 0
    simp only [List.getElem?_cons_zero] at hc
    have HB := Lib.hid hB
    have HQ := Lib.hid hQ
    clear hB hQ H
    go_wp2_with fail
    refine leaves_cons (f := 124) (args := #[.pointer (some ⟨w.heap.size, 0, none⟩)]) (by simp) (by simp [go_sem]) ?_
    refine (treeCatch_idle ⟨w.heap.size, 0, none⟩ _).mono ?_
    rintro e u' w'' ⟨rfl, rfl, rfl⟩
    have hc2 := (HB.out.set_ 0 .nilIface).cell 0
    simp only [List.set_cons_zero, List.getElem?_cons_zero] at hc2
    simp [Leaves, settle, results, Tryz.results77, go_sem]
    rw [hc2]
    exact ⟨_, rfl, none, w', HQ.out, (Only.refl (· = w.heap.size) w').setCell (p := ⟨w.heap.size, 0, none⟩) (.inl rfl) _, rfl⟩
  · have hc := hB.cell 0
    have hf := hB.frozen 0
    simp only [List.getElem?_cons_zero] at hc
    have HQ := Lib.hid hQ
    clear hQ H
    go_wp2_with fail
    refine leaves_cons (f := 124) (args := #[.pointer (some ⟨w.heap.size, 0, none⟩)]) (by simp) (by simp [go_sem]) ?_
    refine (treeCatch_panicking ⟨w.heap.size, 0, none⟩ T y [] _ hc hf).mono ?_
    rintro e u' w'' ⟨rfl, rfl, rfl⟩
    have hc2 := ((hB.alloc (.cells #[.iface T y] 232)).set_ 0 (.iface T y)).cell 0
    simp only [List.set_cons_zero, List.getElem?_cons_zero] at hc2
    simp [Leaves, settle, results, Tryz.results77, go_sem]
    rw [hc2]
    exact ⟨_, rfl, some (.iface T y), w', HQ.out, ((Only.refl (· = w.heap.size) w').alloc _).setCell (p := ⟨w.heap.size, 0, none⟩) (.inl rfl) _, rfl⟩


/-- The panic that tells a kind. -/
def tdied (k : Nat) : Ending := .panicked [tfaultE (kindE k)]
def TEnds (ok : Bool) (k : Nat) (e : Ending) : Prop := (ok = true ∧ e = .returned (.tuple #[])) ∨ (ok = false ∧ e = tdied k)
theorem TEnds.good (k : Nat) : TEnds true k (.returned (.tuple #[])) := .inl ⟨rfl, rfl⟩
theorem TEnds.no (k : Nat) : TEnds false k (tdied k) := .inr ⟨rfl, rfl⟩
def TEndK (k : Nat) (e : Ending) : Prop := (k = 0 ∧ e = .returned (.tuple #[])) ∨ (1 ≤ k ∧ k ≤ 100 ∧ e = tdied k)
theorem tguardedK (K : FuncId) (caps : Array Value) (w : World) (Q : Nat → World → Prop) (hK : ∀ W, (callFunc K caps).run Tryz.prog W = .ok (.enter K caps) W)
    (h : Calls Tryz.prog K caps (w.alloc (.cells #[.nilIface] 83)) fun e w' => Blk w' w.heap.size 83 [.nilIface] ∧ ∃ k, TEndK k e ∧ Q k w') :
    Calls Tryz.prog 77 #[.func (.func K) #[] caps] w fun e w'' => ∃ k w', k ≤ 100 ∧ Q k w' ∧ Only (· = w.heap.size) w' w'' ∧ e = .returned (errK k) := by
  refine (tguarded_any K caps w (fun o w' => ∃ k, k ≤ 100 ∧ o.getD .nilIface = errK k ∧ Q k w') hK ?_).mono ?_
  · refine h.mono ?_
    rintro e w' ⟨hb, k, hk, hq⟩
    refine ⟨hb, ?_⟩
    rcases hk with ⟨rfl, rfl⟩ | ⟨h1, h2, rfl⟩
    · exact .inl ⟨rfl, 0, by omega, rfl, hq⟩
    · exact .inr ⟨_, _, rfl, k, h2, by show kindE k = errK k; unfold errK; rw [if_neg (by omega)], hq⟩
  · rintro e w'' ⟨o, w', ⟨k, hk, ho, hq⟩, hon, rfl⟩
    exact ⟨k, w', hk, hq, hon, by rw [ho]⟩
theorem tfail_any (k : Nat) (w : World) : Calls Tryz.prog 84 #[kindE k] w fun e w' => e = tdied k ∧ w = w' := by
  unfold kindE
  go_enter Tryz.func84, Tryz.ntmps84
  go_wp2_with fail
  exact ⟨rfl, rfl, rfl⟩

/-- A tree's own cells. -/
structure Tm where
  g : Nat
  first : Nat
  n : Nat
  root : Nat
  saved : Option Nat
  seq : Nat
  pages : Nat
  bad : Bool
def refO : Option Nat → Value
  | none => .pointer none
  | some r => refV r
def tmCells (m : Tm) : List Value := [.pointer (some ⟨m.g, 0, none⟩), .int .i64 (m.first : Nat), .int .i64 (m.n : Nat), refV m.root, refO m.saved, .int .u64 (m.seq : Nat), .int .i64 (m.pages : Nat), .bool m.bad]
abbrev TmAt (w : World) (gT : Nat) (m : Tm) : Prop := Blk w gT 158 (tmCells m)
theorem facts8 {w : World} {g : Nat} {t : TypeId} {a0 a1 a2 a3 a4 a5 a6 a7 : Value} (h : Blk w g t [a0, a1, a2, a3, a4, a5, a6, a7]) :
    w.cell? ⟨g, 0, none⟩ = some a0 ∧ w.cell? ⟨g, 1, none⟩ = some a1 ∧ w.cell? ⟨g, 2, none⟩ = some a2 ∧ w.cell? ⟨g, 3, none⟩ = some a3 ∧ w.cell? ⟨g, 4, none⟩ = some a4 ∧ w.cell? ⟨g, 5, none⟩ = some a5 ∧ w.cell? ⟨g, 6, none⟩ = some a6 ∧ w.cell? ⟨g, 7, none⟩ = some a7 ∧ (∀ i, w.frozen? ⟨g, i, none⟩ = false) :=
  ⟨h.cell 0, h.cell 1, h.cell 2, h.cell 3, h.cell 4, h.cell 5, h.cell 6, h.cell 7, fun i => h.frozen i⟩
theorem TFr.of_disk {w w' : World} {g : Nat} {v : Value} {d : Pl.Dk} {rd : Int} (h : DiskAt w g v d rd) (hlo : LO ≤ g) (ho : Only (· = g) w w') : TFr w w' := by
  obtain ⟨wr, sy, hb⟩ := h.blk
  obtain ⟨A, cap, rfl, _⟩ := own_src h.own
  refine ⟨⟨_, ho, fun k hk => ⟨102, by simp, hk ▸ hb.typ⟩⟩, fun r a x hr => ⟨x, ho.blk hr (fun e => ?_), .inl rfl⟩, fun p s hs hc => ho.cell hc (hb.plain (by simp [plainV]) hc hs), ho.mono (fun x _ hx => by rw [hx]; exact hlo)⟩
  subst e
  exact absurd (hr.uniqT hb) (by decide)
/-- Where a look at a tree's sector leads. -/
def TSec (m : Tm) (vD : Value) (d : Pl.Dk) (rd : Int) (i : Nat) (w : World) (e : Ending) (w' : World) : Prop :=
  ((d.life = 0 ∧ e = tdied 3) ∨ (d.life ≠ 0 ∧ e = .returned (.tuple #[.string (tstr ((d.look (m.first + i)).getD [])), .bool (d.look (m.first + i)).isSome]))) ∧ (∃ rd', DiskAt w' m.g vD d rd' ∧ Rds rd rd') ∧ Only (· = m.g) w w'
set_option maxHeartbeats 2000000 in
theorem tsectorB (gT : Nat) (m : Tm) (rest : List Value) (vD : Value) (d : Pl.Dk) (rd : Int) (i : Nat) (w : World) (hT : Blk w gT 158 (.pointer (some ⟨m.g, 0, none⟩) :: .int .i64 (m.first : Nat) :: rest)) (h : DiskAt w m.g vD d rd) (hi : m.first + i < d.secs.length) :
    Calls Tryz.prog 85 #[.pointer (some ⟨gT, 0, none⟩), .int .i64 (i : Nat)] w (TSec m vD d rd i w) := by
  obtain ⟨wr, sy, hgb⟩ := h.blk
  have hne : gT ≠ m.g := hT.ne hgb (by decide)
  have hmost := h.most
  obtain ⟨g, first, n, root, saved, seq, pages, bad⟩ := m
  dsimp only at h hi hne hT
  have c0 : w.cell? ⟨gT, 0, none⟩ = some (.pointer (some ⟨g, 0, none⟩)) := hT.cell 0
  have c1 : w.cell? ⟨gT, 1, none⟩ = some (.int .i64 (first : Nat)) := hT.cell 1
  have H := Lib.hid (fun W hW => read_any g vD d rd (first + i) W hW hi)
  have HD := Lib.hid h
  obtain ⟨x, hx⟩ : ∃ x, first + i = x := ⟨_, rfl⟩
  have hxi : (first : Int) + (i : Int) = (x : Int) := by omega
  have HX := Lib.hid hx
  have hwx : IntKind.i64.wrap (x : Int) = x := IntWalk.i64_in _ (by omega)
  rw [hx] at hi H
  have HT := Lib.hid hT
  have HNE := Lib.hid hne
  clear h hT hgb hx
  have hx2 : (x : Int) ≤ 4096 := by omega
  have S0 := Lib.hid (And.intro c0 c1)
  go_enter Tryz.func85, Tryz.ntmps85
  go_wp2_with fail
  go_region_held3 (fun W : World => W.cell? ⟨gT, 0, none⟩ = some (.pointer (some ⟨g, 0, none⟩)) ∧ W.cell? ⟨gT, 1, none⟩ = some (.int .i64 (first : Nat))) (first | exact S0.out | exact S1.out) (first
    | (go_at_call 131
       refine (H.out _ (HD.out.only ((Only.refl (fun _ => False) w).drew) (fun _ _ => id))).mono ?_
       rintro e w1 ⟨rfl, ⟨rd', h1, h2⟩, h3'⟩
       have h3 : Only (· = g) w w1 := h3'.undrew
       clear h3'
       have H1 := Lib.hid h1
       have H2 := Lib.hid h2
       have H3 := Lib.hid h3
       have BT := Lib.hid (h3.blk HT.out HNE.out)
       have S1 := Lib.hid (And.intro (BT.out.cell 0) (BT.out.cell 1))
       clear h1 h2 h3)
    | fail)
  by_cases h0 : d.life = 0
  · have hr : readOf d x = none := by unfold readOf; rw [if_pos h0]
    rw [hr]
    have HDD := Lib.hid (dead_any g vD d rd' w1 H1.out)
    have hq : (d.life == 0) = true := by rw [h0]; rfl
    have HL := Lib.hid h0
    rw [hq] at HDD
    clear h0 hr hq
    simp only [Option.getD_none, Option.isSome_none]
    go_wp2_with fail
    refine HDD.out.mono ?_
    rintro e w' ⟨rfl, rfl⟩
    go_wp2_with fail
    refine (tfail_any 3 _).mono ?_
    rintro e w' ⟨rfl, rfl⟩
    unfold tdied
    go_wp2_with fail
    exact ⟨rfl, .inl ⟨HL.out, rfl⟩, ⟨rd', H1.out, H2.out⟩, H3.out⟩
  · have hr : readOf d x = d.look x := by unfold readOf; rw [if_neg h0]
    rw [hr]
    have HDD := Lib.hid (dead_any g vD d rd' w1 H1.out)
    have hq : (d.life == 0) = false := by simp [h0]
    have HL := Lib.hid h0
    rw [hq] at HDD
    clear h0 hr hq
    cases hlk : d.look x with
    | none =>
      have HLK := Lib.hid hlk
      clear hlk
      simp only [Option.getD_none, Option.isSome_none]
      go_wp2_with fail
      refine HDD.out.mono ?_
      rintro e w' ⟨rfl, rfl⟩
      go_wp2_with fail
      go_ret2
      exact ⟨.inr ⟨HL.out, by dsimp only; rw [HX.out, HLK.out]; rfl⟩, ⟨rd', H1.out, H2.out⟩, H3.out⟩
    | some t =>
      have HLK := Lib.hid hlk
      clear hlk
      simp only [Option.getD_some, Option.isSome_some]
      go_wp2_with fail
      go_ret2
      exact ⟨.inr ⟨HL.out, by dsimp only; rw [HX.out, HLK.out]; rfl⟩, ⟨rd', H1.out, H2.out⟩, H3.out⟩
theorem tsector_any (gT : Nat) (m : Tm) (vD : Value) (d : Pl.Dk) (rd : Int) (i : Nat) (w : World) (hT : TmAt w gT m) (h : DiskAt w m.g vD d rd) (hi : m.first + i < d.secs.length) :
    Calls Tryz.prog 85 #[.pointer (some ⟨gT, 0, none⟩), .int .i64 (i : Nat)] w (TSec m vD d rd i w) := tsectorB gT m _ vD d rd i w hT h hi
end Go.Proofs.YtljmklohgpaopaaGreatDoor

namespace Go.Proofs.YtljmklohgpaopaaGreatDoor
open Go.RowKit
set_option linter.unusedSectionVars false
variable [Inhabited LoT]

namespace Pl
def pgText : (h : Nat) → Tr h → ST h → List UInt8
  | 0, (ps : List Pr), _ => leafText ps
  | h + 1, t, s => innerText t.1 (s.2.map (top h))
theorem OnD.text {D : Nat → Option (List UInt8)} {n : Nat} : (h : Nat) → (s : ST h) → (t : Tr h) → OnD D n h s t → D (top h s) = some (padded (pgText h t s))
  | 0, _, _, h => h.2.2
  | _ + 1, _, _, h => h.2.2.1
/-- A page that may lie there; the root may be an empty leaf. -/
def PFit (root : Bool) (h : Nat) (t : Tr h) : Prop := if root then RFit h t else Fit h t
theorem PFit.root {root : Bool} {h : Nat} {t : Tr h} (hf : PFit root h t) : RFit h t := by
  cases root
  · exact Fit.root h t hf
  · exact hf
theorem innerText_len {ks : List Key} {ats : List Nat} (hl : ats.length = ks.length + 1) : (innerText ks ats).length = isz ks := by
  have h1 := encKids_len (ks.zip (ats.drop 1))
  rw [List.map_fst_zip (by rw [List.length_drop]; omega)] at h1
  unfold innerText
  rw [List.length_cons, List.length_cons, List.length_append, be_length]
  omega
theorem leafText_len (ps : List Pr) : (leafText ps).length = lsz ps := by
  have := encPrs_len ps
  unfold leafText
  rw [List.length_cons, List.length_append, be_length]
  omega
theorem padded_len {t : List UInt8} (h : t.length ≤ 256) : (padded t).length = 256 := by
  unfold padded zeros
  rw [List.length_append, List.length_replicate]; omega
end Pl
theorem PgAt.form {w : World} {v : Value} : {pg : Pg} → PgAt w v pg → ∃ T b, v = .iface T (.pointer (some ⟨b, 0, none⟩))
  | .leaf _, ⟨b, h, _⟩ => ⟨_, b, h⟩
  | .inner _ _, ⟨b, h, _⟩ => ⟨_, b, h⟩
theorem PgOk.form {w : World} {G : Gh} {v : Value} : (h : Nat) → (t : Pl.Tr h) → (so : Option (Pl.ST h)) → PgOk w G v h t so → ∃ T b, v = .iface T (.pointer (some ⟨b, 0, none⟩))
  | 0, t, _, h => PgAt.form (pg := .leaf t) h
  | _ + 1, _, _, ⟨_, h, _⟩ => h.form
/-- What was made of a page's text. -/
def Parsed (lo : Nat) (v : Value) (w : World) : (h : Nat) → Pl.Tr h → Pl.ST h → Prop
  | 0, (ps : List Pl.Pr), _ => PgAt w v (.leaf ps)
  | h + 1, t, s => ∃ rs, PgAt w v (.inner t.1 rs) ∧ rs.length = s.2.length ∧ Aways w lo rs (s.2.map (Pl.top h))
theorem Parsed.form {lo : Nat} {w : World} {v : Value} : (h : Nat) → (t : Pl.Tr h) → (s : Pl.ST h) → Parsed lo v w h t s → ∃ T b, v = .iface T (.pointer (some ⟨b, 0, none⟩))
  | 0, t, _, h => PgAt.form (pg := .leaf t) h
  | _ + 1, _, _, ⟨_, h, _⟩ => h.form
theorem Parsed.below {lo : Nat} {w w' : World} {v : Value} (hb : Below w.heap.size w w') : (h : Nat) → (t : Pl.Tr h) → (s : Pl.ST h) → Parsed lo v w h t s → Parsed lo v w' h t s
  | 0, t, _, h => PgAt.below (pg := .leaf t) h hb
  | _ + 1, _, _, ⟨rs, h1, h2, h3⟩ => ⟨rs, h1.below hb, h2, h3.below hb⟩
theorem parse_any (D : Nat → Option (List UInt8)) (n h : Nat) (t : Pl.Tr h) (s : Pl.ST h) (w : World) (hD : Pl.OnD D n h s t) (hf : Pl.RFit h t) (hn : n ≤ 4096) :
    Calls Tryz.prog 135 #[.string (tstr (Pl.padded (Pl.pgText h t s)))] w fun e w' => ∃ v, e = .returned v ∧ Parsed w.heap.size v w' h t s ∧ Below w.heap.size w w' := by
  cases h with
  | zero =>
    have f1 := hf.1
    have f2 := hf.2
    have hlen := Pl.leafText_len t
    refine (parse_leaf t (Pl.zeros (256 - (Pl.leafText t).length)) _ w rfl ?_ (fun p hp => ?_)).mono ?_
    · have := Pl.padded_len (t := Pl.leafText t) (by omega)
      exact Nat.le_trans (Nat.le_of_eq this) (by omega)
    · have := f2 p hp
      exact ⟨by have := this.1.2; omega, by have := this.2; omega⟩
    · rintro e w' ⟨b, rfl, h1, _, h3⟩
      exact ⟨_, rfl, ⟨b, rfl, h1⟩, h3⟩
  | succ h =>
    obtain ⟨f1, f2, f3, f4, f5⟩ := hf
    obtain ⟨d1, d2, d3, d4, d5⟩ := hD
    have hal : (s.2.map (Pl.top h)).length = t.1.length + 1 := by rw [List.length_map]; omega
    have hlen := Pl.innerText_len (ks := t.1) hal
    have hks := len_le_isz t.1
    refine (parse_inner t.1 (s.2.map (Pl.top h)) (Pl.zeros (256 - (Pl.innerText t.1 (s.2.map (Pl.top h))).length)) _ w rfl ?_ (fun k hk => by have := (f4 k hk).2; omega) (by omega) hal (fun a ha => ?_)).mono ?_
    · have := Pl.padded_len (t := Pl.innerText t.1 (s.2.map (Pl.top h))) (by omega)
      exact Nat.le_trans (Nat.le_of_eq this) (by omega)
    · obtain ⟨y, hy, rfl⟩ := List.mem_map.1 ha
      obtain ⟨i, hi⟩ := List.mem_iff_getElem?.1 hy
      obtain ⟨hlt, _⟩ := List.getElem?_eq_some_iff.1 hi
      have := (Pl.OnD.bounds h y _ (d5 i y _ hi (List.getElem?_eq_getElem (d4 ▸ hlt)))).2
      omega
    · rintro e w' ⟨b, rs, rfl, h1, h2, h3, _, h5⟩
      exact ⟨_, rfl, ⟨rs, ⟨b, rfl, h1⟩, by rw [h2, List.length_map], h3⟩, h5⟩
theorem right_any (D : Nat → Option (List UInt8)) (n h lo0 : Nat) (t : Pl.Tr h) (s : Pl.ST h) (v : Value) (lo : Pl.Key) (hi : Option Pl.Key) (root : Bool) (w : World) (hp : Parsed lo0 v w h t s) (hD : Pl.OnD D n h s t) (hf : Pl.PFit root h t) (hs : Pl.Spn h lo hi t) :
    Calls Tryz.prog 136 #[v, spanV lo hi, .bool root, .int .i64 (n : Nat)] w fun e w' => e = .returned (.bool true) ∧ Below w.heap.size w w' := by
  cases h with
  | zero =>
    obtain ⟨b, rfl, h1⟩ := hp
    have f1 := hf.root.1
    have f2 := hf.root.2
    have := len_le_lsz t
    refine right_leaf b n t lo hi root w h1 f2 hs ?_ (by omega)
    cases root with
    | true => exact .inl rfl
    | false => exact .inr hf.2.1
  | succ h =>
    obtain ⟨rs, ⟨b, rfl, h1⟩, h2, h3⟩ := hp
    obtain ⟨f1, f2, f3, f4, f5⟩ := hf.root
    obtain ⟨d1, d2, d3, d4, d5⟩ := hD
    have hks := len_le_isz t.1
    obtain ⟨k1, k2⟩ := Pl.SpnK.keys hs
    refine right_inner b n t.1 rs (s.2.map (Pl.top h)) lo hi root w h1 f4 k1 k2 f2 ⟨by rw [h2, List.length_map], fun i r a hr ha => ⟨_, h3.at_ i r a hr ha⟩⟩ (fun a ha => ?_) (by omega) (by omega)
    obtain ⟨y, hy, rfl⟩ := List.mem_map.1 ha
    obtain ⟨i, hi⟩ := List.mem_iff_getElem?.1 hy
    obtain ⟨hlt, _⟩ := List.getElem?_eq_some_iff.1 hi
    exact Pl.OnD.bounds h y _ (d5 i y _ hi (List.getElem?_eq_getElem (d4 ▸ hlt)))

/-- What stays as a tree is read. -/
structure TEnv where
  gT : Nat
  m : Tm
  vD : Value
  d : Pl.Dk
  S : List Nat
def TEnv.D (E : TEnv) : Nat → Option (List UInt8) := fun j => E.d.look (E.m.first + j)
/-- How low what is changed may lie. -/
structure Lows (E : TEnv) (G : Gh) : Prop where
  g : ∀ r x, G r = some x → LO ≤ r
  d : ∀ k, dF E.m.g E.vD k → LO ≤ k
  t : LO ≤ E.gT
structure TW (E : TEnv) (w : World) (rd : Int) (G : Gh) : Prop where
  tree : TmAt w E.gT E.m
  disk : DiskAt w E.m.g E.vD E.d rd
  inv : Inv w G E.D E.m.n E.S
  room : E.m.first + E.m.n ≤ E.d.secs.length
  low : Lows E G
theorem TW.below {E : TEnv} {w w' : World} {rd : Int} {G : Gh} (h : TW E w rd G) (hb : Below w.heap.size w w') : TW E w' rd G := ⟨h.tree.below hb h.tree.lt, h.disk.below hb, h.inv.below hb, h.room, h.low⟩
theorem TW.base {E : TEnv} {w : World} {rd : Int} {G : Gh} (h : TW E w rd G) : LO ≤ w.heap.size := Nat.le_trans h.low.t (Nat.le_of_lt h.tree.lt)
def RdK (k : Nat) (rd rd' : Int) : Prop := 0 ≤ rd → rd + (k : Int) < 4611686018427387904 → 0 ≤ rd' ∧ rd' ≤ rd + (k : Int)
theorem RdK.refl (k : Nat) (rd : Int) : RdK k rd rd := fun h1 h2 => ⟨h1, by omega⟩
theorem RdK.trans {j k n : Nat} {a b c : Int} (h : RdK j a b) (h' : RdK k b c) (hn : j + k ≤ n) : RdK n a c := fun h1 h2 => by
  have h3 := h h1 (by omega)
  have h4 := h' h3.1 (by omega)
  omega
theorem RdK.mono {j k : Nat} {a b : Int} (h : RdK j a b) (hn : j ≤ k) : RdK k a b := fun h1 h2 => by
  have h3 := h h1 (by omega)
  omega
/-- How a call that reads a tree ends. -/
def RPost (E : TEnv) (k : Nat) (rd : Int) (G : Gh) (Q : World → Gh → Value → Prop) (w : World) (e : Ending) (w' : World) : Prop :=
  (∃ v G' rd', e = .returned v ∧ TW E w' rd' G' ∧ Ext G G' ∧ TFr w w' ∧ RdK k rd rd' ∧ Q w' G' v) ∨ (E.d.life = 0 ∧ e = tdied 3 ∧ (∃ rd', DiskAt w' E.m.g E.vD E.d rd') ∧ TFr w w')
/-- What was read is in its place. -/
theorem TW.read {E : TEnv} {w w1 : World} {rd : Int} {G : Gh} (hw : TW E w rd G) (hb : Below w.heap.size w w1) {r h : Nat} {t : Pl.Tr h} {s : Pl.ST h} {v : Value} (hr : RefAt w r (Pl.top h s) .nilIface) (hG : G r = some ⟨h, t⟩) (hD : Pl.OnD E.D E.m.n h s t) (hS : ∀ j ∈ Pl.secsOf h s, j ∈ E.S)
    {lo : Nat} (hlo : lo = w.heap.size) (hp : Parsed lo v w1 h t s) : ∃ G', TW E (w1.setCell ⟨r, 1, none⟩ v) rd G' ∧ Ext G G' ∧ TFr w (w1.setCell ⟨r, 1, none⟩ v) ∧ PgOk (w1.setCell ⟨r, 1, none⟩ v) G' v h t none ∧ RefAt (w1.setCell ⟨r, 1, none⟩ v) r (Pl.top h s) v := by
  subst hlo
  have key : ∃ G', Inv w1 G' E.D E.m.n E.S ∧ Ext G G' ∧ PgOk w1 G' v h t (some s) ∧ Lows E G' := by
    cases h with
    | zero => exact ⟨G, hw.inv.below hb, Ext.refl G, hp, hw.low⟩
    | succ h =>
      obtain ⟨rs, h1, h2, h3⟩ := hp
      obtain ⟨d1, d2, d3, d4, d5⟩ := hD
      obtain ⟨g1, g2, g3⟩ := hw.inv.kids hb (cs := t.2) (ss := s.2) h3 (by rw [h2, d4]) d4 rfl d5 (fun a ha j hj => hS j (List.mem_cons_of_mem _ (List.mem_flatMap.2 ⟨a, ha, hj⟩)))
      refine ⟨_, g1, g2, ⟨rs, h1, by rw [h2, d4], g3, fun s' hs' i r a hr ha => ?_⟩, ⟨fun k x hk => (Gh.kids_low hk).elim (hw.low.g k x) (fun hl => Nat.le_trans hw.base hl), hw.low.d, hw.low.t⟩⟩
      injection hs' with hs'
      subst hs'
      exact ⟨_, h3.at_ i r _ hr (by rw [List.getElem?_map, ha]; rfl)⟩
  obtain ⟨G', k1, k2, k3, k4⟩ := key
  have hr1 : RefAt w1 r (Pl.top h s) .nilIface := hr.below hb hr.lt
  obtain ⟨s1, s2⟩ := setRef hr1 v (hw.low.g _ _ hG)
  refine ⟨G', ⟨s2.blk (hw.tree.below hb hw.tree.lt) (by decide) (by decide), (hw.disk.below hb).only ((Only.refl (· = r) w1).setCell (p := ⟨r, 1, none⟩) (.inl rfl) v) (fun k hk e => ?_), k1.loaded hr1 (k2 _ _ hG) hD hS k3 (hw.low.g _ _ hG), hw.room, k4⟩, k2, (TFr.of_below hb).trans s2, (k3.bare h t _).tfr s2 (Ext.refl G'), s1⟩
  subst e
  obtain ⟨t', h1, h2⟩ := (hw.disk.below hb).kinds k hk
  have := h2.uniq hr1.typ
  rw [this] at h1
  exact absurd h1 (by decide)
end Go.Proofs.YtljmklohgpaopaaGreatDoor
