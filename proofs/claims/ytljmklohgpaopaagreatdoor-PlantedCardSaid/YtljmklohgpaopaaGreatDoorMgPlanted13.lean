/- A tree's pages: inners. A tree's pages: refs. A tree's pages: together. -/
import Derived.Test.YtljmklohgpaopaaGreatDoorMgPlanted12
set_option linter.unusedVariables false
set_option linter.unusedSimpArgs false

namespace Go.Proofs.YtljmklohgpaopaaGreatDoor
open Go.RowKit
set_option linter.unusedSectionVars false
variable [Inhabited LoT]

theorem TSrc.at_off {w : World} {A : Option Addr} {cs : List Value} {t : TypeId} (h : TSrc w A cs t) (hne : cs ≠ []) : ∃ b off, A = some ⟨b, off, none⟩ := by
  rcases h.1 with h1 | ⟨b, off, e, _⟩
  · exact absurd h1 hne
  · exact ⟨b, off, e⟩
theorem TSrc.nil (w : World) (t : TypeId) : TSrc w none [] t := ⟨.inl rfl, fun p hp => by cases hp⟩
theorem Src.drop' {w : World} {b off : Nat} {cs : List Value} (h : Src w (some ⟨b, off, none⟩) cs) (k : Nat) : Src w (some ⟨b, off + k, none⟩) (cs.drop k) := by
  rcases h with h | ⟨b', off', e, h⟩
  · exact .inl (by rw [h]; exact List.drop_nil)
  · injection e with e
    injection e with e1 e2
    subst e1 e2
    exact .inr ⟨b, off + k, rfl, fun j u hu => by
      rw [List.getElem?_drop] at hu
      have := h _ u hu
      rw [Nat.add_assoc]
      exact this⟩
theorem TSrc.take {w : World} {A : Option Addr} {cs : List Value} {t : TypeId} (h : TSrc w A cs t) (n : Nat) : TSrc w A (cs.take n) t := ⟨h.1.take n, h.2⟩
theorem TSrc.drop {w : World} {b off : Nat} {cs : List Value} {t : TypeId} (h : TSrc w (some ⟨b, off, none⟩) cs t) (k : Nat) : TSrc w (some ⟨b, off + k, none⟩) (cs.drop k) t := ⟨h.1.drop' k, fun p hp => by injection hp with hp; subst hp; exact h.2 ⟨b, off, none⟩ rfl⟩
/-- Where it lies in the row that a call gives back. -/
theorem below_row {w w2 w3 w4 : World} {gx : Nat} (h : Below w.heap.size w w2) (k : Below w2.heap.size w2 w3) (hg : w.heap.size = gx) (ho : Only (· = gx) w3 w4) : Below w.heap.size w w4 ∧ Below gx w w4 := by
  have h1 := h.trans (k.mono h.size)
  have h2 := h1.trans (ho.toBelow h1.size (fun k hk e => by omega))
  exact ⟨h2, by rw [← hg]; exact h2⟩
theorem cut_next {all k half at_ : Nat} {ks : List Pl.Key} {x : Pl.Key} (hx : ks[k]? = some x) :
    Pl.cut all (ks.drop k) k half at_ = if all / 2 ≤ half + (5 + x.length) then (if 0 < k then k else at_) else Pl.cut all (ks.drop (k + 1)) (k + 1) (half + (5 + x.length)) (if 0 < k then k else at_) := by
  obtain ⟨hlt, rfl⟩ := List.getElem?_eq_some_iff.1 hx
  rw [List.drop_eq_getElem_cons hlt, Pl.cut]
theorem csum_next {ks : List Pl.Key} {k : Nat} {x : Pl.Key} (hx : ks[k]? = some x) : Pl.csum ks (k + 1) = Pl.csum ks k + (5 + x.length) := by
  unfold Pl.csum
  rw [List.take_add_one, hx, List.map_append, List.sum_append]; simp
theorem csum_le (ks : List Pl.Key) (k : Nat) : Pl.csum ks k + 6 ≤ Pl.isz ks := by
  have := isz_take_le ks k
  have e : Pl.isz (ks.take k) = 6 + Pl.csum ks k := rfl
  omega
set_option maxRecDepth 100000 in
set_option maxHeartbeats 4000000 in
theorem inners_any (A A' : Option Addr) (cap cap' : Nat) (ks : List Pl.Key) (rs : List Nat) (h : Nat) (cs : List (Pl.Tr h)) (w : World) (G : Gh) (hk : TSrc w A (ksCells ks) 9) (hr : TSrc w A' (refsCells rs) 156) (hc : ks.length ≤ cap) (hc' : rs.length ≤ cap')
    (hl : rs.length = cs.length) (hkl : cs.length = ks.length + 1) (hG : ∀ (i r : Nat) (c : Pl.Tr h), rs[i]? = some r → cs[i]? = some c → G r = some ⟨h, c⟩) (hsz : Pl.isz ks ≤ 420) (hkf : ∀ k ∈ ks, k.length ≤ 40) :
    Calls Tryz.prog 186 #[.slice A ks.length cap, .slice A' rs.length cap'] w fun e w' => ∃ rv, e = .returned rv ∧ RowAt w' G (h + 1) rv (Pl.innerRow ks cs) ∧ Below w.heap.size w w' := by
  obtain ⟨n, hn⟩ : ∃ n, ks.length = n := ⟨_, rfl⟩
  have hlen := len_le_isz ks
  have h500 : n ≤ 500 := by omega
  have hrl : rs.length = n + 1 := by omega
  obtain ⟨w1, hw1⟩ : ∃ w1, w.alloc (.cells #[.slice none 0 0, .slice none 0 0] 242) = w1 := ⟨_, rfl⟩
  have hb1 : Below w.heap.size w w1 := by rw [← hw1]; exact (Below.refl _ _).alloc (Nat.le_refl _) _
  have B1 : Blk w1 w.heap.size 242 [.slice none 0 0, .slice none 0 0] := by rw [← hw1]; exact Blk.new w 242 _
  obtain ⟨gx, hgx⟩ : ∃ g, w.heap.size = g := ⟨_, rfl⟩
  rw [hgx] at B1
  obtain ⟨gi, hgi⟩ : ∃ g, w1.heap.size = g := ⟨_, rfl⟩
  obtain ⟨w2, hw2⟩ : ∃ w2, w1.alloc (.cells #[.slice A n cap, .slice A' (n + 1) cap'] 185) = w2 := ⟨_, rfl⟩
  have hb2 : Below w1.heap.size w1 w2 := by rw [← hw2]; exact (Below.refl _ _).alloc (Nat.le_refl _) _
  have B2 : Blk w2 gi 185 [.slice A ks.length cap, .slice A' rs.length cap'] := by rw [hn, hrl, ← hw2, ← hgi]; exact Blk.new w1 185 _
  have hb12 := hb1.trans (hb2.mono hb1.size)
  have hi2 : InnerAt w2 gi ks rs := ⟨A, cap, A', cap', B2, hc, hc', hk.below hb12, hr.below hb12⟩
  have HI2 := Lib.hid hi2
  have HSZ := Lib.hid (isize_any gi ks rs w2 hi2 (by omega))
  have HB := Lib.hid hb12
  have HX := Lib.hid (B1.below hb2 B1.lt)
  have HN := Lib.hid hn
  have HGX := Lib.hid hgx
  have HRL := Lib.hid hrl
  have HK := Lib.hid (hk.below hb12)
  have HR := Lib.hid (hr.below hb12)
  have HGG := Lib.hid hG
  have HKF := Lib.hid hkf
  have HIS := Lib.hid hsz
  have HCL : Hid (cs.length = n + 1 ∧ n ≤ cap ∧ n + 1 ≤ cap') := ⟨by omega, by omega, by omega⟩
  have hlt : Hid (gx < gi) := by have := B1.lt; rw [Hid]; omega
  rw [hn, hrl]
  obtain ⟨sz, hsz'⟩ : ∃ s, Pl.isz ks = s := ⟨_, rfl⟩
  have HSI := Lib.hid hsz'
  rw [hsz'] at HSZ hsz
  clear hk hr hb1 hb2 B1 B2 hb12 hi2 hn hlen hkf hG hc hc' hl hkl hrl hsz'
  by_cases hs : sz ≤ 256
  · have q1 : (sz : Int) ≤ 256 := by omega
    have HS := Lib.hid hs
    obtain ⟨gs, hgs⟩ : ∃ g, w2.heap.size = g := ⟨_, rfl⟩
    obtain ⟨w3, hw3⟩ : ∃ x, w2.alloc (.cells #[.iface 180 (.pointer (some ⟨gi, 0, none⟩))] 166) = x := ⟨_, rfl⟩
    have hb3 : Below w2.heap.size w2 w3 := by rw [← hw3]; exact (Below.refl _ _).alloc (Nat.le_refl _) _
    have HS3 : Hid (TSrc w3 (some ⟨gs, 0, none⟩) [innerV gi] 166) := ⟨by rw [← hw3, ← hgs]; exact Src.of_blk (Blk.new w2 166 _), fun p hp => by injection hp with hp; subst hp; rw [← hw3, ← hgs]; exact (Blk.new w2 166 _).typ⟩
    have HB3 := Lib.hid hb3
    have HX3 := Lib.hid (HX.out.below hb3 HX.out.lt)
    obtain ⟨c0, c1, f0, f1⟩ := facts2 HX3.out
    clear hb3
    go_enter Tryz.func186, Tryz.ntmps186
    go_wp2_with fail
    refine HSZ.out.mono ?_
    rintro e w4 ⟨rfl, rfl⟩
    go_wp2_with fail
    have ho : Only (· = gx) w3 ((w3.setCell ⟨gx, 0, none⟩ (Value.slice none 0 0)).setCell ⟨gx, 1, none⟩ (Value.slice (some ⟨gs, 0, none⟩) 1 1)) :=
      ((Only.refl (· = gx) w3).setCell (p := ⟨gx, 0, none⟩) (.inl rfl) _).setCell (p := ⟨gx, 1, none⟩) (.inl rfl) _
    have hkx := one_kinds HX3.out
    have hbel := below_row HB.out HB3.out HGX.out ho
    refine bodyPost_ret (v := .agg #[Value.slice none 0 0, Value.slice (some ⟨gs, 0, none⟩) 1 1]) (results_row rfl rfl ((HX3.out.set_ 0 _).set_ 1 _)) rfl ⟨_, rfl, ?_, by first | exact hbel.1 | exact hbel.2⟩
    have hir : Pl.innerRow ks cs = (([((ks, cs) : List Pl.Key × List (Pl.Tr h))], []) : Pl.Row (h + 1)) := by
      unfold Pl.innerRow Pl.innersOf
      rw [if_pos (by rw [HSI.out]; exact HS.out)]; rfl
    rw [hir]
    have hin : PgOk w3 G (innerV gi) (h + 1) ((ks, cs) : List Pl.Key × List (Pl.Tr h)) none := ⟨rs, ⟨gi, rfl, HI2.out.below HB3.out⟩, by have := HRL.out; have := HCL.out.1; show rs.length = cs.length; omega, HGG.out, fun s hs => by cases hs⟩
    refine ⟨none, 0, some ⟨gs, 0, none⟩, 1, [innerV gi], rfl, Nat.le_refl _, Nat.le_refl _, TSrc.nil _ _, HS3.out.only ho hkx (by decide), rfl, fun i v t hv ht => ?_⟩
    cases i with
    | zero =>
      obtain rfl : innerV gi = v := by simpa using hv
      have ht' : some ((ks, cs) : List Pl.Key × List (Pl.Tr h)) = some t := ht
      injection ht' with ht'
      subst ht'
      exact hin.only ho hkx (by decide)
    | succ i => simp at hv
  · have q1 : ¬ (sz : Int) ≤ 256 := by omega
    obtain ⟨s1, s2, s3, s4⟩ := Pl.cutAt_spec HKF.out (by rw [HSI.out]; omega) (by rw [HSI.out]; omega)
    obtain ⟨c, hc⟩ : ∃ c, Pl.cutAt ks = c := ⟨_, rfl⟩
    have HC := Lib.hid hc
    rw [hc, HN.out] at s2
    rw [hc] at s1
    have HIR : Hid (Pl.innerRow ks cs = (([(ks.take c, cs.take (c + 1)), (ks.drop (c + 1), cs.drop (c + 1))], (ks.drop c).take 1) : Pl.Row (h + 1))) := by
      rw [Hid]
      unfold Pl.innerRow Pl.innersOf
      rw [if_neg (by rw [HSI.out]; omega), hc]; rfl
    have HC0 : Hid (Pl.cut sz ks.dropLast 0 0 1 = c) := by rw [Hid, ← HSI.out, ← hc]; rfl
    have HDL : Hid (ks.dropLast.length = n - 1) := by rw [Hid, List.length_dropLast, HN.out]
    have hn1 : ((n : Int) - 1) = ((n - 1 : Nat) : Int) := by omega
    have hncap : ((n - 1 : Nat) : Int) ≤ (cap : Int) := by have := HCL.out.2.1; omega
    clear hc s3 s4
    obtain ⟨b0, o0, hA⟩ := HK.out.at_off (by
      intro e
      have : (ksCells ks).length = n := by unfold ksCells; rw [List.length_map, HN.out]
      rw [e] at this
      simp at this
      omega)
    subst hA
    go_enter Tryz.func186, Tryz.ntmps186
    go_wp2_with fail
    refine HSZ.out.mono ?_
    rintro e w4 ⟨rfl, rfl⟩
    go_upto_block 0 with fail
    go_cut [7] from 6 (fun s7 wx => s7 = .int .i64 (c : Nat) ∧ w2 = wx)
    case first =>
      go_wp2_with fail
      go_loop [6, 7, 29] (fun hv av i => ∃ k half at_ : Nat, k ≤ n - 1 ∧ i = .int .i64 (k : Int) ∧ hv = .int .i64 (half : Nat) ∧ av = .int .i64 (at_ : Nat) ∧ Hid (half = Pl.csum ks k) ∧ Hid (Pl.cut sz (ks.dropLast.drop k) k half at_ = c)) (fun _ _ i => n - 1 - (intOf i).toNat)
      case atStart => exact ⟨0, 0, 1, Nat.zero_le _, rfl, rfl, rfl, (Pl.csum_zero ks).symm, HC0⟩
      case round =>
        obtain ⟨k, half, at_, hk, rfl, rfl, rfl, HH, HCU⟩ := hrel
        by_cases hkn : k < n - 1
        · have q2 : (k : Int) < ((n - 1 : Nat) : Int) := by omega
          obtain ⟨x, hx⟩ : ∃ x, ks[k]? = some x := ⟨_, List.getElem?_eq_getElem (by rw [HN.out]; omega)⟩
          have hx' : ks.dropLast[k]? = some x := by
            rw [List.getElem?_dropLast, HN.out, if_pos hkn, hx]
          have g0 := HK.out.1.cell _ _ (ks_at hx)
          have HNX : Hid _ := cut_next (all := sz) (half := half) (at_ := at_) hx'
          have HCS : Hid _ := csum_next hx
          have hle := csum_le ks (k + 1)
          have hx40 := HKF.out x (List.mem_of_getElem? hx)
          obtain ⟨sx, hsx⟩ : ∃ s, tstr x = s := ⟨_, rfl⟩
          have hxs : sx.size = x.length := by rw [← hsx]; exact tstr_size x
          rw [hsx] at g0
          obtain ⟨xl, hxl⟩ : ∃ l, x.length = l := ⟨_, rfl⟩
          rw [hxl] at hxs HNX HCS hx40
          have hb9 : half + (5 + xl) ≤ 1000 := by have := HCS.out; have := HH.out; have := HIS.out; omega
          have t1 : (sz : Int).tdiv 2 = ((sz / 2 : Nat) : Int) := (Int.ofNat_tdiv sz 2).symm
          obtain ⟨a2, ha2⟩ : ∃ a, sz / 2 = a := ⟨_, rfl⟩
          have ha2b : a2 ≤ 1000 := by omega
          rw [ha2] at t1 HNX
          clear hx hx' hle hsx hxl ha2
          by_cases h0 : 0 < k
          · have q3 : (0 : Int) < (k : Int) := by omega
            rw [if_pos h0] at HNX
            by_cases hh : a2 ≤ half + (5 + xl)
            · have q4 : (a2 : Int) ≤ (half : Int) + (5 + (xl : Int)) := by omega
              have HE : Hid (k = c) := by have := HNX.out; rw [if_pos hh, HCU.out] at this; exact this.symm
              clear HNX
              go_wp2_with fail
              refine (HSZ.out).mono ?_
              rintro e w4 ⟨rfl, rfl⟩
              go_wp2_with fail
              go_meet
              case rel => exact ⟨by rw [← HE.out], rfl⟩
            · have q4 : ¬ (a2 : Int) ≤ (half : Int) + (5 + (xl : Int)) := by omega
              have HE : Hid (Pl.cut sz (ks.dropLast.drop (k + 1)) (k + 1) (half + (5 + xl)) k = c) := by have := HNX.out; rw [if_neg hh, HCU.out] at this; exact this.symm
              clear HNX
              go_wp2_with fail
              refine (HSZ.out).mono ?_
              rintro e w4 ⟨rfl, rfl⟩
              go_wp2_with fail
              go_round
              case rel => exact ⟨k + 1, half + (5 + xl), k, by omega, by simp, by simp, rfl, by rw [Hid, HCS.out, ← HH.out], HE.out⟩
              case measure => simp [intOf]; omega
          · have q3 : ¬ (0 : Int) < (k : Int) := by omega
            rw [if_neg h0] at HNX
            by_cases hh : a2 ≤ half + (5 + xl)
            · have q4 : (a2 : Int) ≤ (half : Int) + (5 + (xl : Int)) := by omega
              have HE : Hid (at_ = c) := by have := HNX.out; rw [if_pos hh, HCU.out] at this; exact this.symm
              clear HNX
              go_wp2_with fail
              refine (HSZ.out).mono ?_
              rintro e w4 ⟨rfl, rfl⟩
              go_wp2_with fail
              go_meet
              case rel => exact ⟨by rw [← HE.out], rfl⟩
            · have q4 : ¬ (a2 : Int) ≤ (half : Int) + (5 + (xl : Int)) := by omega
              have HE : Hid (Pl.cut sz (ks.dropLast.drop (k + 1)) (k + 1) (half + (5 + xl)) at_ = c) := by have := HNX.out; rw [if_neg hh, HCU.out] at this; exact this.symm
              clear HNX
              go_wp2_with fail
              refine (HSZ.out).mono ?_
              rintro e w4 ⟨rfl, rfl⟩
              go_wp2_with fail
              go_round
              case rel => exact ⟨k + 1, half + (5 + xl), at_, by omega, by simp, by simp, rfl, by rw [Hid, HCS.out, ← HH.out], HE.out⟩
              case measure => simp [intOf]; omega
        · obtain rfl : k = n - 1 := by omega
          have HE : Hid (at_ = c) := by
            have := HCU.out
            rw [List.drop_of_length_le (by rw [HDL.out]; exact Nat.le_refl _), Pl.cut] at this
            exact this
          go_wp2_with fail
          go_meet
          case rel => exact ⟨by rw [← HE.out], rfl⟩
    case rest =>
      obtain ⟨rfl, hww⟩ := hcut
      subst hww
      have k1 : (c : Int) ≤ (n : Int) := by omega
      have k2 : (c : Int) ≤ (cap : Int) := by have := HCL.out.2.1; omega
      have k3 : (c : Int) + 1 ≤ (cap' : Int) := by have := HCL.out.2.2; omega
      have k4 : (c : Int) + 1 ≤ (n : Int) := by omega
      have k5 : (c : Int) + 1 ≤ ((n + 1 : Nat) : Int) := by omega
      obtain ⟨b1, o1, hA'⟩ := HR.out.at_off (by
        intro e
        have : (refsCells rs).length = n + 1 := by unfold refsCells; rw [List.length_map, HRL.out]
        rw [e] at this
        simp at this)
      subst hA'
      go_wp2_with fail
      go_region
      obtain ⟨ga, hga⟩ : ∃ g, w2.heap.size = g := ⟨_, rfl⟩
      obtain ⟨wa, hwa⟩ : ∃ x, (w2.alloc (.cells #[.slice (some ⟨b0, o0, none⟩) c c, .slice (some ⟨b1, o1, none⟩) (c + 1) (c + 1)] 185)).drew = x := ⟨_, rfl⟩
      have hba : Below w2.heap.size w2 wa := by rw [← hwa]; exact ((Below.refl _ _).alloc (Nat.le_refl _) _).drew
      have BA : Blk wa ga 185 [.slice (some ⟨b0, o0, none⟩) c c, .slice (some ⟨b1, o1, none⟩) (c + 1) (c + 1)] := by rw [← hwa, ← hga]; exact (Blk.new w2 185 _).drew
      have HBA := Lib.hid hba
      have HIA := Lib.hid BA
      clear hba BA
      rw [hwa, hga]
      have k6 : (c : Int) + 1 ≤ (n : Int) + 1 := by omega
      have k7 : ¬ cap = c + 1 := by have := HCL.out.2.1; omega
      have k8 : ¬ cap' = c + 1 := by have := HCL.out.2.2; omega
      have k9 : (n : Int) ≤ (cap : Int) := by have := HCL.out.2.1; omega
      have k11 : (n : Int) + 1 ≤ (cap' : Int) := by have := HCL.out.2.2; omega
      go_wp2_with fail
      go_region
      obtain ⟨gb, hgb⟩ : ∃ g, wa.heap.size = g := ⟨_, rfl⟩
      obtain ⟨wb, hwb⟩ : ∃ x, (wa.alloc (.cells #[.slice (some ⟨b0, o0 + (c + 1), none⟩) (n - (c + 1)) (cap - (c + 1)), .slice (some ⟨b1, o1 + (c + 1), none⟩) (n - c) (cap' - (c + 1))] 185)).drew = x := ⟨_, rfl⟩
      have hbb : Below wa.heap.size wa wb := by rw [← hwb]; exact ((Below.refl _ _).alloc (Nat.le_refl _) _).drew
      have BB : Blk wb gb 185 [.slice (some ⟨b0, o0 + (c + 1), none⟩) (n - (c + 1)) (cap - (c + 1)), .slice (some ⟨b1, o1 + (c + 1), none⟩) (n - c) (cap' - (c + 1))] := by rw [← hwb, ← hgb]; exact (Blk.new wa 185 _).drew
      have hb2b := HBA.out.trans (hbb.mono HBA.out.size)
      have HB2B := Lib.hid hb2b
      have hnks : ks.length = n := HN.out
      have IA : InnerAt wb ga (ks.take c) (rs.take (c + 1)) := by
        refine ⟨some ⟨b0, o0, none⟩, c, some ⟨b1, o1, none⟩, c + 1, ?_, ?_, ?_, ?_, ?_⟩
        · rw [List.length_take, List.length_take, Nat.min_eq_left (by omega), Nat.min_eq_left (by have := HRL.out; omega)]
          exact HIA.out.below hbb HIA.out.lt
        · rw [List.length_take]; omega
        · rw [List.length_take]; omega
        · have := (HK.out.below hb2b).take c
          unfold ksCells at this ⊢
          rw [List.map_take]; exact this
        · have := (HR.out.below hb2b).take (c + 1)
          unfold refsCells at this ⊢
          rw [List.map_take]; exact this
      have IB : InnerAt wb gb (ks.drop (c + 1)) (rs.drop (c + 1)) := by
        refine ⟨some ⟨b0, o0 + (c + 1), none⟩, cap - (c + 1), some ⟨b1, o1 + (c + 1), none⟩, cap' - (c + 1), ?_, ?_, ?_, ?_, ?_⟩
        · rw [List.length_drop, List.length_drop, HN.out, HRL.out, show n + 1 - (c + 1) = n - c by omega]
          exact BB
        · rw [List.length_drop, HN.out]; have := HCL.out.2.1; omega
        · rw [List.length_drop, HRL.out]; have := HCL.out.2.2; omega
        · have := (HK.out.below hb2b).drop (c + 1)
          unfold ksCells at this ⊢
          rw [List.map_drop]; exact this
        · have := (HR.out.below hb2b).drop (c + 1)
          unfold refsCells at this ⊢
          rw [List.map_drop]; exact this
      have HPA : Hid (PgOk wb G (innerV ga) (h + 1) ((ks.take c, cs.take (c + 1)) : List Pl.Key × List (Pl.Tr h)) none) := by
        refine ⟨rs.take (c + 1), ⟨ga, rfl, IA⟩, ?_, fun i r t hr ht => ?_, fun s hs => by cases hs⟩
        · show (rs.take (c + 1)).length = (cs.take (c + 1)).length
          rw [List.length_take, List.length_take, HRL.out, HCL.out.1]
        · have ht' : (cs.take (c + 1))[i]? = some t := ht
          rcases Nat.lt_or_ge i (c + 1) with hi | hi
          · rw [List.getElem?_take_of_lt hi] at hr ht'
            exact HGG.out i r t hr ht'
          · rw [List.getElem?_eq_none (by rw [List.length_take]; omega)] at hr; cases hr
      have HPB : Hid (PgOk wb G (innerV gb) (h + 1) ((ks.drop (c + 1), cs.drop (c + 1)) : List Pl.Key × List (Pl.Tr h)) none) := by
        refine ⟨rs.drop (c + 1), ⟨gb, rfl, IB⟩, ?_, fun i r t hr ht => ?_, fun s hs => by cases hs⟩
        · show (rs.drop (c + 1)).length = (cs.drop (c + 1)).length
          rw [List.length_drop, List.length_drop, HRL.out, HCL.out.1]
        · have ht' : (cs.drop (c + 1))[i]? = some t := ht
          rw [List.getElem?_drop] at hr ht'
          exact HGG.out _ r t hr ht'
      obtain ⟨x, hx⟩ : ∃ x, ks[c]? = some x := ⟨_, List.getElem?_eq_getElem (by omega)⟩
      have g0 := (HK.out.below hb2b).1.cell _ _ (ks_at hx)
      have HXC := Lib.hid hx
      rw [hwb, hgb]
      clear IA IB BB hbb hb2b hnks hx
      obtain ⟨g1, hg1⟩ : ∃ g, wb.heap.size = g := ⟨_, rfl⟩
      obtain ⟨wk, hwk⟩ : ∃ y, wb.alloc (.cells #[.string (tstr x)] 9) = y := ⟨_, rfl⟩
      obtain ⟨g2, hg2⟩ : ∃ g, wk.heap.size = g := ⟨_, rfl⟩
      obtain ⟨wp, hwp⟩ : ∃ y, wk.alloc (.cells #[.iface 180 (.pointer (some ⟨ga, 0, none⟩)), .iface 180 (.pointer (some ⟨gb, 0, none⟩))] 166) = y := ⟨_, rfl⟩
      have hbk : Below wb.heap.size wb wk := by rw [← hwk]; exact (Below.refl _ _).alloc (Nat.le_refl _) _
      have hbp : Below wk.heap.size wk wp := by rw [← hwp]; exact (Below.refl _ _).alloc (Nat.le_refl _) _
      have HBP := Lib.hid (HB2B.out.trans ((hbk.trans (hbp.mono hbk.size)).mono HB2B.out.size))
      have HBKP := Lib.hid (hbk.trans (hbp.mono hbk.size))
      have HTK : Hid (TSrc wp (some ⟨g1, 0, none⟩) (ksCells [x]) 9) := by
        have : TSrc wk (some ⟨g1, 0, none⟩) (ksCells [x]) 9 := ⟨by rw [← hwk, ← hg1]; exact src_str wb x, fun p hp => by injection hp with hp; subst hp; rw [← hwk, ← hg1]; exact (Blk.new wb 9 _).typ⟩
        exact this.below hbp
      have HTP : Hid (TSrc wp (some ⟨g2, 0, none⟩) [innerV ga, innerV gb] 166) := ⟨by rw [← hwp, ← hg2]; exact Src.of_blk (Blk.new wk 166 _), fun p hp => by injection hp with hp; subst hp; rw [← hwp, ← hg2]; exact (Blk.new wk 166 _).typ⟩
      have HX3 := Lib.hid (HX.out.below HBP.out HX.out.lt)
      obtain ⟨c0, c1, f0, f1⟩ := facts2 HX3.out
      clear hbk hbp
      go_wp2_with fail
      have ho : Only (· = gx) wp ((wp.setCell ⟨gx, 0, none⟩ (Value.slice (some ⟨g1, 0, none⟩) 1 1)).setCell ⟨gx, 1, none⟩ (Value.slice (some ⟨g2, 0, none⟩) 2 2)) :=
        ((Only.refl (· = gx) wp).setCell (p := ⟨gx, 0, none⟩) (.inl rfl) _).setCell (p := ⟨gx, 1, none⟩) (.inl rfl) _
      have hkx := one_kinds HX3.out
      have hbel := below_row HB.out HBP.out HGX.out ho
      refine bodyPost_ret (v := .agg #[Value.slice (some ⟨g1, 0, none⟩) 1 1, Value.slice (some ⟨g2, 0, none⟩) 2 2]) (results_row rfl rfl ((HX3.out.set_ 0 _).set_ 1 _)) rfl ⟨_, rfl, ?_, by first | exact hbel.1 | exact hbel.2⟩
      have hx1 : (ks.drop c).take 1 = [x] := by
        obtain ⟨hlt, e⟩ := List.getElem?_eq_some_iff.1 HXC.out
        rw [List.drop_eq_getElem_cons hlt, e]; rfl
      rw [HIR.out, hx1]
      refine ⟨some ⟨g1, 0, none⟩, 1, some ⟨g2, 0, none⟩, 2, [innerV ga, innerV gb], rfl, Nat.le_refl _, Nat.le_refl _, HTK.out.only ho hkx (by decide), HTP.out.only ho hkx (by decide), rfl, fun i v t hv ht => ?_⟩
      match i, hv, ht with
      | 0, hv, ht =>
        obtain rfl : innerV ga = v := by simpa using hv
        have ht' : some ((ks.take c, cs.take (c + 1)) : List Pl.Key × List (Pl.Tr h)) = some t := ht
        injection ht' with ht'
        subst ht'
        exact (HPA.out.only (Only.of_below HBKP.out (fun _ => False)) (kinds_none _) (by simp)).only ho hkx (by decide)
      | 1, hv, ht =>
        obtain rfl : innerV gb = v := by simpa using hv
        have ht' : some ((ks.drop (c + 1), cs.drop (c + 1)) : List Pl.Key × List (Pl.Tr h)) = some t := ht
        injection ht' with ht'
        subst ht'
        exact (HPB.out.only (Only.of_below HBKP.out (fun _ => False)) (kinds_none _) (by simp)).only ho hkx (by decide)
      | i + 2, hv, _ => simp at hv
end Go.Proofs.YtljmklohgpaopaaGreatDoor

namespace Go.Proofs.YtljmklohgpaopaaGreatDoor
open Go.RowKit
set_option linter.unusedSectionVars false
variable [Inhabited LoT]

/-- Pages get refs. -/
theorem Inv.refs {w w1 : World} {G : Gh} {D : Nat → Option (List UInt8)} {n : Nat} {S : List Nat} (hi : Inv w G D n S) (hb : Below w.heap.size w w1) {h : Nat} {rs : List Nat} {vs : List Value} {ts : List (Pl.Tr h)}
    (hrl : rs.length = ts.length) (hvl : vs.length = ts.length) (hup : rs.Pairwise (· < ·)) (hlo : ∀ r ∈ rs, w.heap.size ≤ r) (hR : ∀ (i r : Nat) (v : Value), rs[i]? = some r → vs[i]? = some v → RefAt w1 r 0 v)
    (hP : ∀ (i : Nat) (v : Value) (t : Pl.Tr h), vs[i]? = some v → ts[i]? = some t → PgOk w G v h t none) :
    Inv w1 (G.kids w.heap.size h rs ts) D n S ∧ Ext G (G.kids w.heap.size h rs ts) ∧ ∀ (i r : Nat) (c : Pl.Tr h), rs[i]? = some r → ts[i]? = some c → G.kids w.heap.size h rs ts r = some ⟨h, c⟩ := by
  have hx : Ext G (G.kids w.heap.size h rs ts) := fun k x hk => by unfold Gh.kids; rw [if_pos (hi.lt hk)]; exact hk
  refine ⟨fun k h' t' hk => ?_, hx, fun i r c hr hc => ?_⟩
  · unfold Gh.kids at hk
    by_cases hl : k < w.heap.size
    · rw [if_pos hl] at hk
      exact (hi k h' t' hk).below hb hx
    · rw [if_neg hl] at hk
      split at hk
      · next p hp =>
        injection hk with hk
        injection hk with e1 e2
        subst e1
        obtain rfl := eq_of_heq e2
        obtain ⟨_, i, h2, h3⟩ := zip_find hp
        obtain ⟨hlt, _⟩ := List.getElem?_eq_some_iff.1 h3
        obtain ⟨v, hv⟩ : ∃ v, vs[i]? = some v := ⟨_, List.getElem?_eq_getElem (by omega)⟩
        exact .inl ⟨v, hR i k v h2 hv, (hP i v _ hv h3).tfr (.of_below hb) hx⟩
      · cases hk
  · unfold Gh.kids
    rw [if_neg (by have := hlo r (List.mem_of_getElem? hr); omega), find_zip hup hr hc]
theorem PgOk.below {w w' : World} {G : Gh} {v : Value} {h : Nat} {t : Pl.Tr h} (hp : PgOk w G v h t none) (hb : Below w.heap.size w w') : PgOk w' G v h t none := hp.tfr (.of_below hb) (Ext.refl G)
theorem refs_snoc (rs : List Nat) (r : Nat) : refsCells (rs ++ [r]) = refsCells rs ++ refsCells [r] := by unfold refsCells; rw [List.map_append]
/-- Refs that were made. -/
def Made (w0 w : World) (vs : List Value) (k : Nat) (rs : List Nat) : Prop :=
  rs.length = k ∧ rs.Pairwise (· < ·) ∧ (∀ r ∈ rs, w0.heap.size ≤ r ∧ r < w.heap.size) ∧ ∀ (i r : Nat) (v : Value), rs[i]? = some r → vs[i]? = some v → RefAt w r 0 v
set_option maxRecDepth 100000 in
set_option maxHeartbeats 2000000 in
theorem refs_any (B : Option Addr) (cb h : Nat) (vs : List Value) (ts : List (Pl.Tr h)) (w : World) (G : Gh) (hs : TSrc w B vs 166) (hvl : vs.length = ts.length) (hn : ts.length ≤ 1000)
    (hP : ∀ (i : Nat) (v : Value) (t : Pl.Tr h), vs[i]? = some v → ts[i]? = some t → PgOk w G v h t none) :
    Calls Tryz.prog 133 #[.slice B ts.length cb] w fun e w' => ∃ v rs, e = .returned v ∧ Rw 156 1 w' w.heap.size v rs.length (refsCells rs) ∧ Made w w' vs ts.length rs ∧ Below w.heap.size w w' := by
  obtain ⟨n, hn'⟩ : ∃ n, ts.length = n := ⟨_, rfl⟩
  rw [hn'] at hvl hn ⊢
  have HVL := Lib.hid hvl
  have HN := Lib.hid hn'
  have HS := Lib.hid hs
  have HP := Lib.hid hP
  clear hs hP hvl hn'
  go_enter Tryz.func133, Tryz.ntmps133
  go_wp2_with fail
  go_loopw [3, 8] (fun ov i wr => ∃ (k : Nat) (rs : List Nat), k ≤ n ∧ i = .int .i64 (k : Int) ∧ Hid (Rw 156 1 wr w.heap.size ov k (refsCells rs)) ∧ Hid (Made w wr vs k rs) ∧ Hid (Below w.heap.size w wr)) (fun _ i _ => n - (intOf i).toNat)
  case atStart => exact ⟨0, [], Nat.zero_le _, rfl, Rw.nil _ _, ⟨rfl, List.Pairwise.nil, (fun r hr => by cases hr), fun i r v hr _ => by simp at hr⟩, Below.refl _ _⟩
  case round =>
    obtain ⟨k, rs, hk, rfl, HR, HM, HB⟩ := hrel
    by_cases hkn : k < n
    · have q1 : (k : Int) < (n : Int) := by omega
      obtain ⟨v, hv⟩ : ∃ v, vs[k]? = some v := ⟨_, List.getElem?_eq_getElem (by rw [HVL.out]; exact hkn)⟩
      obtain ⟨t, ht⟩ : ∃ t, ts[k]? = some t := ⟨_, List.getElem?_eq_getElem (by rw [HN.out]; exact hkn)⟩
      obtain ⟨T, b, rfl⟩ := (HP.out k v t hv ht).form h t none
      obtain ⟨b2, off, rfl, g0⟩ := (HS.out.below HB.out).1.at_ _ _ hv
      have HV := Lib.hid hv
      obtain ⟨gr, hgr⟩ : ∃ g, wr.heap.size = g := ⟨_, rfl⟩
      obtain ⟨w1, hw1⟩ : ∃ x, wr.alloc (.cells #[.int .i64 0, .iface T (.pointer (some ⟨b, 0, none⟩))] 168) = x := ⟨_, rfl⟩
      obtain ⟨gs, hgs⟩ : ∃ g, w1.heap.size = g := ⟨_, rfl⟩
      obtain ⟨w2, hw2⟩ : ∃ x, w1.alloc (.cells #[.pointer (some ⟨gr, 0, none⟩)] 156) = x := ⟨_, rfl⟩
      have hb1 : Below wr.heap.size wr w1 := by rw [← hw1]; exact (Below.refl _ _).alloc (Nat.le_refl _) _
      have hb2 : Below w1.heap.size w1 w2 := by rw [← hw2]; exact (Below.refl _ _).alloc (Nat.le_refl _) _
      have hb12 := hb1.trans (hb2.mono hb1.size)
      have BR : RefAt w2 gr 0 (.iface T (.pointer (some ⟨b, 0, none⟩))) := by
        have : RefAt w1 gr 0 (.iface T (.pointer (some ⟨b, 0, none⟩))) := by rw [← hw1, ← hgr]; exact Blk.new wr 168 _
        exact this.below hb2 this.lt
      have HS2 : Hid (Src w2 (some ⟨gs, 0, none⟩) (refsCells [gr])) := by rw [← hw2, ← hgs]; exact src_ref w1 gr
      have HR2 := Lib.hid (HR.out.below hb12)
      have HB2 := Lib.hid (HB.out.trans (hb12.mono HB.out.size))
      have HBR := Lib.hid BR
      have HSZ : Hid (gr < w2.heap.size ∧ wr.heap.size = gr) := ⟨BR.lt, hgr⟩
      have HL : Hid (w.heap.size ≤ w2.heap.size) := HB2.out.size
      have HM2 : Hid (∀ r ∈ rs, w.heap.size ≤ r ∧ r < gr) := fun r hr => by have := HM.out.2.2.1 r hr; omega
      have HM3 : Hid (∀ (i r : Nat) (v : Value), rs[i]? = some r → vs[i]? = some v → RefAt w2 r 0 v) := fun i r v h1 h2 => by have := HM.out.2.2.2 i r v h1 h2; exact this.below hb12 this.lt
      have HBW : Hid (w.heap.size ≤ gr) := by rw [Hid, ← hgr]; exact HB.out.size
      clear hv ht hb1 hb2 hb12 BR
      go_wp2_with (first
        | (at_builtin
           refine wpList_rw Tryz.eltRef rfl (.tmp 12) (.tmp 16) rfl rfl HR2.out (some ⟨gs, 0, none⟩) 1 1 (refsCells [gr]) rfl rfl HS2.out (refsCells_one _) (by omega) HL.out ?_
           intro v3 w3 r3 m3
           have HR3 := Lib.hid r3
           have HM4 := Lib.hid m3
           clear r3 m3)
        | fail)
      have ho := HM4.out.only
      have hkk := HR2.out.kinds'
      have keep : ∀ (r : Nat) (v : Value), RefAt w2 r 0 v → RefAt w3 r 0 v := fun r v hr => ho.blk_ hkk hr (by decide)
      refine ⟨⟨k + 1, rs ++ [gr], by omega, by go_num, by rw [Hid, refs_snoc]; exact HR3.out, ⟨?_, ?_, ?_, ?_⟩, HB2.out.trans (HM4.out.belowR HR2.out HL.out)⟩, by simp [intOf]; omega⟩
      · rw [List.length_append, HM.out.1]; rfl
      · exact List.pairwise_append.2 ⟨HM.out.2.1, List.pairwise_singleton _ _, fun x hx y hy => by rw [List.mem_singleton.1 hy]; exact (HM2.out x hx).2⟩
      · intro r hr
        have := ho.size
        have := HSZ.out
        rcases List.mem_append.1 hr with hr | hr
        · have := HM2.out r hr; omega
        · rw [List.mem_singleton.1 hr]; have := HBW.out; omega
      · intro i r v hr hv
        rcases Nat.lt_or_ge i k with hi | hi
        · rw [List.getElem?_append_left (by rw [HM.out.1]; exact hi)] at hr
          exact keep _ _ (HM3.out i r v hr hv)
        · rw [List.getElem?_append_right (by rw [HM.out.1]; exact hi), HM.out.1] at hr
          have hi0 : i = k := by
            rcases Nat.lt_or_ge (i - k) 1 with h4 | h4
            · omega
            · rw [List.getElem?_eq_none (by simpa using h4)] at hr; cases hr
          subst hi0
          rw [Nat.sub_self] at hr
          obtain rfl : gr = r := by simpa using hr
          rw [HV.out] at hv
          injection hv with hv
          rw [← hv]
          exact keep _ _ HBR.out
    · obtain rfl : k = n := by omega
      go_wp2_with fail
      go_ret
      exact ⟨_, rs, rfl, by rw [HM.out.1]; exact HR.out, HM.out, HB.out⟩
end Go.Proofs.YtljmklohgpaopaaGreatDoor

namespace Go.Proofs.YtljmklohgpaopaaGreatDoor
open Go.RowKit
set_option linter.unusedSectionVars false
variable [Inhabited LoT]

theorem lsz_append (a b : List Pl.Pr) : Pl.lsz (a ++ b) + 3 = Pl.lsz a + Pl.lsz b := by simp [Pl.lsz]; omega
theorem TSrc.drew {w : World} {A : Option Addr} {cs : List Value} {t : TypeId} (h : TSrc w A cs t) : TSrc w.drew A cs t := h.below ((Below.refl _ _).drew)
theorem row_done {w : World} {gx h : Nat} {G : Gh} {r : Pl.Row h} {u0 u1 x y : Value} (hX : Blk w gx 242 [x, y]) (hr : RowAt w G h (.agg #[u0, u1]) r) : RowAt ((w.setCell ⟨gx, 0, none⟩ u0).setCell ⟨gx, 1, none⟩ u1) G h (.agg #[u0, u1]) r :=
  hr.only (((Only.refl (· = gx) w).setCell (p := ⟨gx, 0, none⟩) (.inl rfl) _).setCell (p := ⟨gx, 1, none⟩) (.inl rfl) _) (one_kinds hX) (by decide) (by decide)
theorem row_below {w w4 : World} {gx : Nat} (h : Below w.heap.size w w4) (hg : w.heap.size = gx) (u0 u1 : Value) : Below w.heap.size w ((w4.setCell ⟨gx, 0, none⟩ u0).setCell ⟨gx, 1, none⟩ u1) ∧ Below gx w ((w4.setCell ⟨gx, 0, none⟩ u0).setCell ⟨gx, 1, none⟩ u1) :=
  below_row h (Below.refl _ _) hg (((Only.refl (· = gx) w4).setCell (p := ⟨gx, 0, none⟩) (.inl rfl) _).setCell (p := ⟨gx, 1, none⟩) (.inl rfl) _)
set_option maxRecDepth 100000 in
set_option maxHeartbeats 4000000 in
theorem together_leaf (a b : List Pl.Pr) (key : Pl.Key) (va vb : Value) (w : World) (G : Gh) (ha : PgOk w G va 0 a none) (hb : PgOk w G vb 0 b none) (hsz : Pl.lsz a + Pl.lsz b ≤ 400) :
    Calls Tryz.prog 185 #[va, .string (tstr key), vb] w fun e w' => ∃ rv, e = .returned rv ∧ RowAt w' G 0 rv (Pl.together 0 a key b) ∧ Below w.heap.size w w' := by
  obtain ⟨pa, rfl, Aa, ca, ba, hca, hta⟩ := ha
  obtain ⟨pb, rfl, Ab, cb, bb, hcb, htb⟩ := hb
  have hll := lsz_append a b
  have hla := len_le_lsz a
  have hlb := len_le_lsz b
  obtain ⟨w1, hw1⟩ : ∃ w1, w.alloc (.cells #[.slice none 0 0, .slice none 0 0] 242) = w1 := ⟨_, rfl⟩
  have hb1 : Below w.heap.size w w1 := by rw [← hw1]; exact (Below.refl _ _).alloc (Nat.le_refl _) _
  have B1 : Blk w1 w.heap.size 242 [.slice none 0 0, .slice none 0 0] := by rw [← hw1]; exact Blk.new w 242 _
  obtain ⟨gx, hgx⟩ : ∃ g, w.heap.size = g := ⟨_, rfl⟩
  rw [hgx] at B1
  have HGX := Lib.hid hgx
  have HX := Lib.hid B1
  have HB1 := Lib.hid hb1
  have BA := Lib.hid (ba.below hb1 ba.lt)
  have BB := Lib.hid (bb.below hb1 bb.lt)
  have TA := Lib.hid (hta.below hb1)
  have TB := Lib.hid (htb.below hb1)
  obtain ⟨c0, _⟩ := facts1 BA.out
  obtain ⟨d0, _⟩ := facts1 BB.out
  obtain ⟨n, hn⟩ : ∃ n, a.length = n := ⟨_, rfl⟩
  obtain ⟨m, hm⟩ : ∃ n, b.length = n := ⟨_, rfl⟩
  rw [hn] at c0 hla
  rw [hm] at d0 hlb
  have HN := Lib.hid hn
  have HM := Lib.hid hm
  have S0 := Lib.hid (And.intro c0 d0)
  have hnm : n + m ≤ 400 := by omega
  have HSZ : Hid (Pl.lsz (a ++ b) ≤ 1000) := by rw [Hid]; omega
  clear hb1 B1 ba bb hta htb hca hcb hll hla hlb hsz hn hm
  have m1 : ∀ (W : World), (Instr.typeAssert (.iface 161 (.pointer (some ⟨pa, 0, none⟩))) 166 161 true).run Tryz.prog W = .ok (.tuple #[.pointer (some ⟨pa, 0, none⟩), .bool true]) W := fun W => by kernel_rfl
  have m2 : ∀ (W : World), (Instr.typeAssert (.iface 161 (.pointer (some ⟨pb, 0, none⟩))) 166 161 false).run Tryz.prog W = .ok (.pointer (some ⟨pb, 0, none⟩)) W := fun W => by kernel_rfl
  unfold leafV
  go_enter Tryz.func185, Tryz.ntmps185
  go_wp2_with fail
  go_region_held3 (fun W : World => W.cell? ⟨pa, 0, none⟩ = some (.slice Aa n ca) ∧ W.cell? ⟨pb, 0, none⟩ = some (.slice Ab m cb)) (first | exact S0.out | exact S1.out | exact S2.out | exact S3.out | exact S4.out _ _) (first
    | (refine step_rw Tryz.eltPair rfl (.const (.slice none 0 0)) (.tmp 21) rfl rfl (Rw.nil w1.drew w.heap.size) Aa n ca (prsCells a) rfl (by rw [prsCells_len, HN.out]) TA.out.drew.1 (prsCells_one a) (by omega) HB1.out.size ?_
       intro v2 w2 r2 m2'
       rw [Nat.zero_add, List.nil_append] at r2
       have M2 : Hid (Mv w1 w2 (.slice none 0 0) v2) := Mv.beforeR (base := 0) (n := 0) (cs := []) ((Below.refl w1.heap.size w1).drew) m2'
       have R2 := Lib.hid r2
       have hbe : Below w1.heap.size w1 w2 := M2.out.only.toBelow (Nat.le_refl _) (fun k _ hk => by cases hk)
       have HB2 := Lib.hid hbe
       have BA2 := Lib.hid (BA.out.below hbe BA.out.lt)
       have BB2 := Lib.hid (BB.out.below hbe BB.out.lt)
       have S1 := Lib.hid (show w2.cell? ⟨pa, 0, none⟩ = some (.slice Aa n ca) ∧ w2.cell? ⟨pb, 0, none⟩ = some (.slice Ab m cb) from ⟨by have := (facts1 BA2.out).1; rw [HN.out] at this; exact this, by have := (facts1 BB2.out).1; rw [HM.out] at this; exact this⟩)
       clear r2 m2' hbe)
    | (refine step_rw Tryz.eltPair rfl (.tmp 22) (.tmp 26) rfl rfl R2.out Ab m cb (prsCells b) rfl (by rw [prsCells_len, HM.out]) (by exact (TB.out.below HB2.out).1) (prsCells_one b) (by omega) (Nat.le_trans HB1.out.size HB2.out.size) ?_
       intro v3 w3 r3 m3
       have R3 := Lib.hid r3
       have hb23 : Below w1.heap.size w1 w3 := HB2.out.trans (m3.only.toBelow HB2.out.size (fun k hk e => by
         rcases M2.out.2 k hk (by simp [Value.ownBlock]) e))
       have HB3 := Lib.hid hb23
       have BA3 := Lib.hid (BA.out.below hb23 BA.out.lt)
       have BB3 := Lib.hid (BB.out.below hb23 BB.out.lt)
       have S2 := Lib.hid (show w3.cell? ⟨pa, 0, none⟩ = some (.slice Aa n ca) ∧ w3.cell? ⟨pb, 0, none⟩ = some (.slice Ab m cb) from ⟨by have := (facts1 BA3.out).1; rw [HN.out] at this; exact this, by have := (facts1 BB3.out).1; rw [HM.out] at this; exact this⟩)
       have HX3 := Lib.hid (HX.out.below hb23 HX.out.lt)
       have HLV : Hid (∃ A3 cap3, v3 = .slice A3 (a ++ b).length cap3 ∧ Calls Tryz.prog 159 #[.slice A3 (a ++ b).length cap3] w3 fun e w' => ∃ rv, e = .returned rv ∧ RowAt w' G 0 rv (Pl.leafRow (a ++ b)) ∧ Below w3.heap.size w3 w') := by
         obtain ⟨A3, cap3, e3, _, h3, _⟩ := R3.out.tsrc
         have e4 : n + m = (a ++ b).length := by rw [List.length_append, HN.out, HM.out]
         rw [e4] at e3
         rw [← prsCells_append] at h3
         exact ⟨A3, cap3, e3, leaves_any A3 cap3 (a ++ b) w3 h3 HSZ.out G⟩
       clear r3 m3 hb23)
    | (go_at_call 159
       obtain ⟨A3, cap3, rfl, HCC⟩ := HLV.out
       refine HCC.mono ?_
       rintro e w4 ⟨rv, rfl, hrow, hb4⟩
       have HRW := Lib.hid hrow
       obtain ⟨Ak, ck, Ap, cp, vs, rfl, _⟩ := hrow
       have HB4 := Lib.hid (HB3.out.trans (hb4.mono HB3.out.size))
       have HX4 := Lib.hid (HX3.out.below hb4 HX3.out.lt)
       have BA4 := Lib.hid (BA3.out.below hb4 BA3.out.lt)
       have BB4 := Lib.hid (BB3.out.below hb4 BB3.out.lt)
       have S3 := Lib.hid (show w4.cell? ⟨pa, 0, none⟩ = some (.slice Aa n ca) ∧ w4.cell? ⟨pb, 0, none⟩ = some (.slice Ab m cb) from ⟨by have := (facts1 BA4.out).1; rw [HN.out] at this; exact this, by have := (facts1 BB4.out).1; rw [HM.out] at this; exact this⟩)
       have S4 := Lib.hid (fun (u0 u1 : Value) => (show ((w4.setCell ⟨gx, 0, none⟩ u0).setCell ⟨gx, 1, none⟩ u1).cell? ⟨pa, 0, none⟩ = some (.slice Aa n ca) ∧ ((w4.setCell ⟨gx, 0, none⟩ u0).setCell ⟨gx, 1, none⟩ u1).cell? ⟨pb, 0, none⟩ = some (.slice Ab m cb) from
         ⟨by have := (facts1 ((BA4.out.far (p := ⟨gx, 0, none⟩) (BA4.out.ne HX4.out (by decide)) u0).far (p := ⟨gx, 1, none⟩) (BA4.out.ne HX4.out (by decide)) u1)).1; rw [HN.out] at this; exact this,
          by have := (facts1 ((BB4.out.far (p := ⟨gx, 0, none⟩) (BB4.out.ne HX4.out (by decide)) u0).far (p := ⟨gx, 1, none⟩) (BB4.out.ne HX4.out (by decide)) u1)).1; rw [HM.out] at this; exact this⟩))
       obtain ⟨x0, x1, y0, y1⟩ := facts2 HX4.out
       clear hb4)
    | fail)
  go_wp2_with fail
  have hbel := row_below (HB1.out.trans (HB4.out.mono HB1.out.size)) HGX.out (Value.slice Ak (Pl.leafRow (a ++ b)).snd.length ck) (Value.slice Ap (Pl.leafRow (a ++ b)).fst.length cp)
  exact bodyPost_ret (v := .agg #[_, _]) (results_row rfl rfl ((HX4.out.set_ 0 _).set_ 1 _)) rfl ⟨_, rfl, row_done HX4.out HRW.out, by first | exact hbel.1 | exact hbel.2⟩
end Go.Proofs.YtljmklohgpaopaaGreatDoor
