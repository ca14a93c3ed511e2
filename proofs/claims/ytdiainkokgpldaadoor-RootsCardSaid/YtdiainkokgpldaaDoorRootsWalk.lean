/- The law Roots walked: it returns true. -/
import Derived.Test.YtdiainkokgpldaaDoorRootsLaw
namespace Go.Proofs.YtdiainkokgpldaaDoor
open Go.RowKit

theorem path_cases (ss : List ByteArray) (at_ : Int) (hm : ss.length ≤ 8796093022208) : ∃ (ps : List Nat) (k : Nat), (∀ W A cap, GE W → BB W A (bl ss) → ss.length ≤ cap →
      Calls Tryd.prog 12 #[.slice A ss.length cap, .int .i64 at_] W fun e w' => e = .returned (.tuple #[.string (pstr ps), errA (k : Nat) ⟨#[]⟩]) ∧ Below W.heap.size W w') ∧
    (((at_ < 0 ∨ (ss.length : Int) ≤ at_) ∧ ps = [] ∧ k = 9) ∨ ∃ i : Nat, at_ = i ∧ i < ss.length ∧ ps = Pl.path (bl ss) i ∧ k = 0) := by
  by_cases h : at_ < 0 ∨ (ss.length : Int) ≤ at_
  · exact ⟨[], 9, fun W A cap hG _ _ => plainPath_bad A ss.length cap at_ W hG h, .inl ⟨h, rfl, rfl⟩⟩
  · obtain ⟨i, rfl⟩ : ∃ i : Nat, at_ = i := ⟨at_.toNat, by omega⟩
    refine ⟨_, 0, fun W A cap hG hb hc => ?_, .inr ⟨i, rfl, by omega, rfl, rfl⟩⟩
    have := plainPath_good (bl ss) A cap i W hG (by rw [bl_len]; omega) hb (by rw [bl_len]; exact hc) (by rw [bl_len]; omega)
    rwa [bl_len] at this

theorem climb_cases (leaf : ByteArray) (place many : Int) (L : List UInt8) (hleaf : leaf.size ≤ 140737488351232) (hL : L.length ≤ 140737488351232) : ∃ (c k : Nat), (∀ W A cap, GE W → BytesAt W A leaf.data.toList →
      Calls Tryd.prog 18 #[.slice A leaf.size cap, .int .i64 place, .int .i64 many, .string (tstr L)] W fun e w' => e = .returned (.tuple #[.string (hstr c), errA (k : Nat) ⟨#[]⟩]) ∧ Below W.heap.size W w') ∧
    (((many < 1 ∨ 4096 < many ∨ place < 0 ∨ many ≤ place) ∧ c = 0 ∧ k = 9) ∨ (∃ i m : Nat, place = i ∧ many = m ∧ i < m ∧ m ≤ 4096 ∧ L.length / 4 ≠ Pl.depth i m ∧ c = 0 ∧ k = 9) ∨
      ∃ i m : Nat, place = i ∧ many = m ∧ i < m ∧ m ≤ 4096 ∧ L.length / 4 = Pl.depth i m ∧ c = Pl.climb leaf.data.toList i m (Pl.groups L) ∧ k = 0) := by
  have hl : leaf.data.toList.length = leaf.size := rfl
  by_cases h : many < 1 ∨ 4096 < many ∨ place < 0 ∨ many ≤ place
  · exact ⟨0, 9, fun W A cap hG _ => plainClimb_num A leaf.size cap place many L W hG (by omega) h, .inl ⟨h, rfl, rfl⟩⟩
  · obtain ⟨i, rfl⟩ : ∃ i : Nat, place = i := ⟨place.toNat, by omega⟩
    obtain ⟨m, rfl⟩ : ∃ m : Nat, many = m := ⟨many.toNat, by omega⟩
    by_cases hd : L.length / 4 = Pl.depth i m
    · refine ⟨_, 0, fun W A cap hG hb => ?_, .inr (.inr ⟨i, m, rfl, rfl, by omega, by omega, hd, rfl, rfl⟩)⟩
      have := plainClimb_good leaf.data.toList A cap i m L W hG (by omega) (by omega) (by omega) (by omega) hd hb
      rwa [hl] at this
    · exact ⟨0, 9, fun W A cap hG _ => plainClimb_len A leaf.size cap i m L W hG (by omega) (by omega) (by omega) hd, .inr (.inl ⟨i, m, rfl, rfl, by omega, by omega, hd, rfl, rfl⟩)⟩

theorem hstr_zero : hstr 0 = ⟨#[0, 0, 0, 0]⟩ := by rfl

set_option maxHeartbeats 4000000 in
set_option maxRecDepth 100000 in
theorem roots_law (ss : List ByteArray) (A : Option Addr) (cap : Nat) (at_ place many : Int) (leaf : ByteArray) (L : List UInt8) (w : World) (hG : GE w) (hs : Src w A (sv ss)) (hcap : ss.length ≤ cap) (hm : ss.length ≤ 8796093022208)
    (hsz : ∀ s ∈ ss, s.size ≤ 140737488351232) (hleaf : leaf.size ≤ 140737488351232) (hL : L.length ≤ 140737488351232) :
    Calls Tryd.prog 4 #[.slice A ss.length cap, .int .i64 at_, .string leaf, .int .i64 place, .int .i64 many, .string (tstr L)] w fun e w' => e = .returned (.bool true) ∧ Below w.heap.size w w' := by
  obtain ⟨ps, k1, HP, hcase⟩ := path_cases ss at_ hm
  have HPath := Lib.hid HP
  have HCase := Lib.hid hcase
  clear HP hcase
  go_enter Tryd.func4, Tryd.ntmps4
  go_wp2_with fail
  refine (lentAll_any ss A cap _ hs hm hsz).mono ?_
  rintro e w1 ⟨v1, gs, rfl, hlent1, hb1⟩
  obtain ⟨A1, cap1, rfl, hc1, _, _⟩ := own_src hlent1.own
  go_wp2_with fail
  have hR := plainRoot_any (bl ss) A1 cap1 w1 (hlent1.bb hsz) (by rw [bl_len]; exact hc1) (by rw [bl_len]; omega)
  rw [bl_len] at hR
  refine hR.mono ?_
  rintro e w2 ⟨rfl, hb2⟩
  have hb12 := hb1.trans (hb2.mono hb1.size)
  have hlent2 := hlent1.below hb2
  clear hR
  go_wp2_with fail
  refine (HPath.out _ A1 cap1 (hG.below hb12) (hlent2.bb hsz) hc1).mono ?_
  rintro e w3 ⟨rfl, hb3⟩
  have hb13 := hb12.trans (hb3.mono hb12.size)
  have hlent3 := (hlent2.below hb3)
  unfold errA
  go_wp2_with fail
  have hlent4 := hlent3.below ((Below.refl w3.heap.size w3).alloc (Nat.le_refl _) (.cells #[.int .i64 (k1 : Int), .string ⟨#[]⟩, .bool true] 24))
  have hb14 := hb13.alloc hb13.size (.cells #[.int .i64 (k1 : Int), .string ⟨#[]⟩, .bool true] 24)
  refine (stayAll_any ss A w.heap.size cap _ gs _ hlent4 (hs.keep (fun p u hp => (hb14.cell (World.block_lt_of_cell? _ _ hp)).trans hp)) (fun h0 b hb => ?_) (size_alloc_le hb13.size _) hm hsz).mono ?_
  · obtain ⟨b', off', e1, hcell⟩ := hs.at_ 0 ((sv ss)[0]'(by rw [sv_len]; exact h0)) (by rw [List.getElem?_eq_getElem])
    rw [hb] at e1
    cases e1
    exact World.block_lt_of_cell? _ _ hcell
  rintro e w5 ⟨rfl, hb5, hrest5⟩
  have hB5 : Blk w5 w3.heap.size 24 [.int .i64 (k1 : Int), .string ⟨#[]⟩, .bool true] := (hrest5 w3.heap.size (by simp) (fun h => by have := hlent3.lt _ h; omega)).trans (Blk.new w3 _ _)
  obtain ⟨c0, c1, c2, f0, f1, f2⟩ := facts3 hB5
  have hb15 := hb14.trans (hb5.mono (Nat.le_refl _))
  have H15 := Lib.hid hb15
  clear hb1 hb2 hb3 hb12 hb13 hb14 hb5 hb15 hrest5 hlent1 hlent2 hlent3 hlent4
  have hs5 := hs.below H15.out
  have hx15 := H15.out.size
  go_wp2_with fail
  refine (refRoot_any _ ss A cap w5 (Nat.le_refl _) hsz hs5 hcap (by omega)).mono ?_
  rintro e w6 ⟨rfl, hb6⟩
  have hB6 := hB5.below hb6 hB5.lt
  obtain ⟨c0, c1, c2, f0, f1, f2⟩ := facts3 hB6
  have H16 := Lib.hid (H15.out.trans (hb6.mono hx15))
  have hx16 := H16.out.size
  have hs6 := hs.below H16.out
  clear hb6 hB5 hs5 H15 hB6
  go_upto_region 7 with fail
  go_cut [53] from 25 (fun s53 wx => s53 = .bool (decide (at_ < 0 ∨ (ss.length : Int) ≤ at_)) ∧ w6 = wx)
  case first =>
    by_cases h1 : at_ < 0
    · go_wp2_with fail
      go_meet
      case rel => exact ⟨by simp [h1], rfl⟩
    · by_cases h2 : (ss.length : Int) ≤ at_
      · go_wp2_with fail
        go_meet
        case rel => exact ⟨by simp [h2], rfl⟩
      · go_wp2_with fail
        go_meet
        case rel => exact ⟨by simp [h1, h2], rfl⟩
  case rest =>
  obtain ⟨rfl, rfl⟩ := hcut
  go_upto_if 53 with fail
  go_cut [] from 25 (fun wx => Below w.heap.size w wx)
  case first =>
    rcases HCase.out with ⟨hbad, rfl, rfl⟩ | ⟨i, rfl, hi, rfl, rfl⟩
    · rw [show decide (at_ < 0 ∨ (ss.length : Int) ≤ at_) = true from decide_eq_true hbad]
      clear hbad
      rw [pstr_nil]
      go_wp2_with fail
      refine (bare_any _ _ _ _).mono ?_
      rintro e w7 ⟨rfl, hb7⟩
      go_wp2_with fail
      go_meet
      case rel => exact H16.out.trans (hb7.mono hx16)
    · rw [show decide ((i : Int) < 0 ∨ (ss.length : Int) ≤ i) = false from decide_eq_false (by omega)]
      go_wp2_with fail
      refine (bare_any _ _ _ _).mono ?_
      rintro e w7 ⟨rfl, hb7⟩
      go_wp2_with fail
      refine (refPath_any _ ss A cap i w7 (Nat.le_refl _) hi hsz (hs6.below hb7) hcap (by omega)).mono ?_
      rintro e w8 ⟨rfl, hb8⟩
      go_wp2_with fail
      go_meet
      case rel => exact (H16.out.trans (hb7.mono hx16)).trans (hb8.mono (Nat.le_trans hx16 hb7.size))
  case rest =>
  obtain ⟨c, k2, HC, hcase2⟩ := climb_cases leaf place many L hleaf hL
  have HClimb := Lib.hid HC
  have HCase2 := Lib.hid hcase2
  have H17 := Lib.hid hcut
  have hx17 := hcut.size
  clear HC hcase2 hcut
  go_wp2_with fail
  refine (lent_any leaf _ hleaf).mono ?_
  rintro e w8 ⟨rfl, rfl⟩
  have hbl := Lib.hid (Blk.new wc 5 (lentRow leaf.data.toList))
  have H18 := Lib.hid (H17.out.alloc hx17 (.cells (lentRow leaf.data.toList).toArray 5))
  go_wp2_with fail
  refine (HClimb.out _ (some ⟨wc.heap.size, 0, none⟩) (leaf.size + 2) (hG.below H18.out) (lentRow_bytes hbl.out)).mono ?_
  rintro e w9 ⟨rfl, hb9⟩
  have H19 := Lib.hid (H18.out.trans (hb9.mono H18.out.size))
  have hx19 := H19.out.size
  have hbl9 := hbl.out.below hb9 hbl.out.lt
  clear hb9
  unfold errA
  go_wp2_with fail
  have hbl10 := hbl9.alloc (.cells #[.int .i64 (k2 : Int), .string ⟨#[]⟩, .bool true] 24)
  refine (stays_any wc.heap.size leaf _ hleaf hbl10).mono ?_
  rintro e w10 ⟨rfl, hgrow, cs, hcs, hblk⟩
  have hB10 := (Blk.new w9 24 [.int .i64 (k2 : Int), .string ⟨#[]⟩, .bool true]).grown hgrow (by have := hbl9.lt; simp; omega)
  obtain ⟨c0, c1, c2, f0, f1, f2⟩ := facts3 hB10
  have H20 := Lib.hid ((H19.out.alloc hx19 (.cells #[.int .i64 (k2 : Int), .string ⟨#[]⟩, .bool true] 24)).grown hgrow (size_alloc_le hx19 _) (fun k hk => by cases hk; exact hx17))
  have hx20 := H20.out.size
  clear hgrow hblk hbl9 hbl10 hB10
  obtain ⟨st, hst⟩ : ∃ st, tstr L = st := ⟨_, rfl⟩
  have hsl : st.size = L.length := by rw [← hst, tstr_size]
  obtain ⟨q, hq⟩ : ∃ q, L.length / 4 = q := ⟨_, rfl⟩
  have hq1 : (st.size : Int).tdiv 4 = (q : Int) := by rw [hsl, ← hq, Int.tdiv_eq_ediv_of_nonneg (by omega)]; omega
  have hqb : q ≤ 140737488351232 := by omega
  have HSL := Lib.hid hsl
  have HST := Lib.hid hst
  have HQ := Lib.hid hq
  rw [hst]
  clear hsl hst hq
  go_upto_region 17 with fail
  go_cut [109] from 25 (fun s109 wx => ∃ b, s109 = .bool b ∧ ((b = true ∧ c = 0 ∧ k2 = 9) ∨ (b = false ∧ ∃ i m : Nat, place = i ∧ many = m ∧ i < m ∧ m ≤ 4096 ∧ L.length / 4 = Pl.depth i m ∧ c = Pl.climb leaf.data.toList i m (Pl.groups L) ∧ k2 = 0)) ∧ w10 = wx)
  case first =>
    rcases HCase2.out with ⟨hbad, rfl, rfl⟩ | ⟨i, m, rfl, rfl, him, hm4, hne, rfl, rfl⟩ | ⟨i, m, rfl, rfl, him, hm4, heq, hcc, rfl⟩
    · by_cases h1 : many < 1
      · go_wp2_with fail
        go_meet
        case rel => exact ⟨true, by simp, .inl (by simp), rfl⟩
      · by_cases h2 : 4096 < many
        · go_wp2_with fail
          go_meet
          case rel => exact ⟨true, by simp, .inl (by simp), rfl⟩
        · by_cases h3 : place < 0
          · go_wp2_with fail
            go_meet
            case rel => exact ⟨true, by simp, .inl (by simp), rfl⟩
          · have h4 : many ≤ place := by omega
            clear hbad
            go_wp2_with fail
            go_meet
            case rel => exact ⟨true, by simp, .inl (by simp), rfl⟩
    · have h1 : ¬ (m : Int) < 1 := by omega
      have h2 : ¬ 4096 < (m : Int) := by omega
      have h3 : ¬ (i : Int) < 0 := by omega
      have h4 : ¬ (m : Int) ≤ i := by omega
      obtain ⟨d, hd⟩ : ∃ d, Pl.depth i m = d := ⟨_, rfl⟩
      rw [hd, HQ.out] at hne
      have HD := Lib.hid hd
      have q3 : ((q : Int) != d) = true := by simp; omega
      have q4 : ¬ (q : Int) = d := by omega
      clear hd hne
      go_wp2_with fail
      refine (refDeep_any i m _ him (by omega)).mono ?_
      rintro e w' ⟨rfl, rfl⟩
      rw [HD.out]
      go_wp2_with fail
      go_meet
      case rel => exact ⟨true, by simp, .inl (by simp), rfl⟩
    · have h1 : ¬ (m : Int) < 1 := by omega
      have h2 : ¬ 4096 < (m : Int) := by omega
      have h3 : ¬ (i : Int) < 0 := by omega
      have h4 : ¬ (m : Int) ≤ i := by omega
      have HE := Lib.hid heq
      have HCC := Lib.hid hcc
      have q3 : ((q : Int) != q) = false := by simp
      clear heq hcc
      go_wp2_with fail
      refine (refDeep_any i m _ him (by omega)).mono ?_
      rintro e w' ⟨rfl, rfl⟩
      rw [← HE.out, HQ.out]
      go_wp2_with fail
      go_meet
      case rel => exact ⟨false, by simp, .inr ⟨rfl, i, m, rfl, rfl, him, hm4, HE.out, HCC.out, by simp⟩, rfl⟩
  case rest =>
  obtain ⟨b, rfl, hcase3, rfl⟩ := hcut
  rcases hcase3 with ⟨rfl, rfl, rfl⟩ | ⟨rfl, i, m, rfl, rfl, him, hm4, heq, hcc, rfl⟩
  · rw [hstr_zero]
    go_wp2_with fail
    refine (bare_any _ _ _ _).mono ?_
    rintro e w11 ⟨rfl, hb11⟩
    go_wp2_with fail
    go_ret
    exact ⟨rfl, H20.out.trans (hb11.mono hx20)⟩
  · have HE := Lib.hid heq
    have hpt : pstr (Pl.groups L) = tstr (L.take (q * 4)) := by
      show tstr (Pl.ptext (Pl.groups L)) = _
      rw [Pl.groups_text, HQ.out]
    have hsl : ∀ w, (Instr.slice 9 (.string st) none (some (.int .i64 ((q : Int) * 4))) none).run Tryd.prog w = .ok (.string (pstr (Pl.groups L))) w := by
      intro w
      rw [hpt, ← HST.out]
      exact run_str_take w L _ (q * 4) (by omega) (by have := HQ.out; omega)
    have hC := refClimb_any leaf hleaf m i m (Pl.groups L)
    have HCL := Lib.hid hC
    have HCC := Lib.hid hcc
    have hgl := Lib.hid (Pl.groups_length L)
    clear heq hcc hC hpt
    go_wp2_with fail
    refine (bare_any _ _ _ _).mono ?_
    rintro e w11 ⟨rfl, hb11⟩
    have H21 := Lib.hid (H20.out.trans (hb11.mono hx20))
    clear hb11
    go_wp2_with fail
    refine (HCL.out w11 (Nat.le_refl _) him hm4 (by rw [hgl.out, HE.out])).mono ?_
    rintro e w12 ⟨rfl, hb12⟩
    rw [← HCC.out]
    go_wp2_with fail
    go_ret
    exact ⟨rfl, H21.out.trans (hb12.mono H21.out.size)⟩
end Go.Proofs.YtdiainkokgpldaaDoor
