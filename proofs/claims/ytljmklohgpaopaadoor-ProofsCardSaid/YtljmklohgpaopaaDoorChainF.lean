/- The walk of the reference's Extends. -/
import Derived.Test.YtljmklohgpaopaaDoorChainE
import Derived.Test.YtljmklohgpaopaaDoorPlainDisk
import Derived.Deep.QuietTactic
import Derived.BigQuiet
namespace Go.Proofs.YtljmklohgpaopaaDoor
open Go.RowKit

theorem hstr_beq (a b : Nat) (ha : a < 4294967296) (hb : b < 4294967296) : ((hstr a).toList == (hstr b).toList) = decide (a = b) := by
  rw [hstr_tstr, hstr_tstr, tstr_beq, Bool.eq_iff_iff, beq_iff_eq, decide_eq_true_eq]
  constructor
  · intro h
    have h1 := hc_be a ha
    have h2 := hc_be b hb
    have h3 : Pl.num (Pl.be 4 a) = Pl.num (Pl.be 4 b) := by rw [h]
    rw [Pl.num_be 4 a ha, Pl.num_be 4 b hb] at h3
    exact h3
  · intro h; rw [h]

set_option maxHeartbeats 4000000 in
set_option maxRecDepth 100000 in
theorem refExtends_any (old more : Int) (h g : Nat) (l : List UInt8) (w : World) (hto : more ≤ 9223372036854775807) (hh : h < 4294967296) (hgg : g < 4294967296) (hm : l.length ≤ 140737488351232) :
    Calls Tryd.prog 11 #[.int .i64 old, .string (hstr h), .int .i64 more, .string (hstr g), .string (tstr l)] w fun e w' => e = .returned (.bool (Pl.extends_ old h more g l)) ∧ Below w.heap.size w w' := by
  have hz : ((hstr h).toList == [0, 0, 0, 0]) = decide (h = 0) := by
    rw [show ([0, 0, 0, 0] : List UInt8) = (hstr 0).toList by rw [ByteArray.toList_eq]; rfl]
    exact hstr_beq h 0 hh (by omega)
  have hsz := tstr_size l
  obtain ⟨st, hst⟩ : ∃ st, tstr l = st := ⟨_, rfl⟩
  obtain ⟨m, hlm⟩ : ∃ m, l.length = m := ⟨_, rfl⟩
  rw [hst, hlm] at hsz
  rw [hst]
  obtain ⟨q, hq⟩ : ∃ q : Nat, m / 13 = q := ⟨_, rfl⟩
  obtain ⟨r, hr⟩ : ∃ r : Nat, m % 13 = r := ⟨_, rfl⟩
  have hq13 : (st.size : Int) / 13 = (q : Int) := by omega
  have hr13 : (st.size : Int) % 13 = (r : Int) := by omega
  rw [hlm] at hm
  have hqm : q ≤ m := by omega
  have HQ := Lib.hid hq
  have HR := Lib.hid hr
  have HST := Lib.hid hst
  have HLM := Lib.hid hlm
  have HSZ := Lib.hid hsz
  have hs0 : (st.size : Int) ≤ 140737488351232 := by omega
  clear hq hr hst hlm hsz
  go_enter Tryd.func11, Tryd.ntmps11
  go_upto_region 1 with fail
  go_cut [43] from 14 (fun s43 wx => s43 = .bool (decide (old < 0 ∨ more < old ∨ (old = 0 ∧ h ≠ 0) ∨ r ≠ 0 ∨ (q : Int) ≠ more - old)) ∧ w = wx)
  case first =>
    by_cases h1 : old < 0
    · go_wp2_with fail
      go_meet
      case rel => exact ⟨by simp [h1], rfl⟩
    by_cases h2 : more < old
    · go_wp2_with fail
      go_meet
      case rel => exact ⟨by simp [h2], rfl⟩
    by_cases h3 : old = 0 ∧ h ≠ 0
    · have e3 : (old == 0) = true := by simp [h3.1]
      rw [decide_eq_false h3.2] at hz
      have H3 := Lib.hid h3
      clear h3
      go_wp2_with fail
      go_meet
      case rel => exact ⟨by rw [decide_eq_true (Or.inr (Or.inr (Or.inl H3.out)))], rfl⟩
    have hrest : Hid (¬ (old < 0 ∨ more < old ∨ (old = 0 ∧ h ≠ 0))) := by
      rintro (h | h | h)
      · exact h1 h
      · exact h2 h
      · exact h3 h
    have hbd : 0 ≤ more - old := by omega
    obtain ⟨dd, hdd⟩ : ∃ dd, more - old = dd := ⟨_, rfl⟩
    have hpre : ∀ (b : Bool), b = decide (r ≠ 0 ∨ (q : Int) ≠ more - old) → Value.bool b = .bool (decide (old < 0 ∨ more < old ∨ (old = 0 ∧ h ≠ 0) ∨ r ≠ 0 ∨ (q : Int) ≠ more - old)) := by
      intro b hb
      rw [hb]
      congr 1
      rw [Bool.eq_iff_iff, decide_eq_true_eq, decide_eq_true_eq]
      have := hrest.out
      constructor
      · intro h; exact .inr (.inr (.inr h))
      · rintro (h | h | h | h)
        · exact absurd (.inl h) this
        · exact absurd (.inr (.inl h)) this
        · exact absurd (.inr (.inr h)) this
        · exact h
    have HPRE := Lib.hid hpre
    have HDD := Lib.hid hdd
    have hz' : (old == 0) = true → ((hstr h).toList == [0, 0, 0, 0]) = true := by
      intro h4
      simp at h4
      rw [hz]
      by_cases h5 : h = 0
      · simp [h5]
      · exact absurd ⟨h4, h5⟩ h3
    clear h3 hpre hz
    by_cases h4 : old = 0
    · have e4 : (old == 0) = true := by simp [h4]
      have hz := hz' e4
      clear hz' h4
      by_cases h5 : r = 0
      · have e5 : ((r : Int) != 0) = false := by simp [h5]
        have H5 := Lib.hid h5
        clear h5
        by_cases h6 : (q : Int) = dd
        · have e6 : ((q : Int) != dd) = false := by simp [h6]
          have H6 := Lib.hid h6
          clear h6
          go_wp2_with fail
          go_meet
          case rel => exact ⟨HPRE.out _ (by rw [HDD.out]; simp [H5.out, H6.out]), rfl⟩
        · have e6 : ((q : Int) != dd) = true := by simp [h6]
          have H6 := Lib.hid h6
          clear h6
          go_wp2_with fail
          go_meet
          case rel => exact ⟨HPRE.out _ (by rw [HDD.out]; simp [H6.out]), rfl⟩
      · have e5 : ((r : Int) != 0) = true := by simp; omega
        have H5 := Lib.hid h5
        clear h5
        go_wp2_with fail
        go_meet
        case rel => exact ⟨HPRE.out _ (by simp [H5.out]), rfl⟩
    · have e4 : (old == 0) = false := by simp [h4]
      clear hz' h4
      by_cases h5 : r = 0
      · have e5 : ((r : Int) != 0) = false := by simp [h5]
        have H5 := Lib.hid h5
        clear h5
        by_cases h6 : (q : Int) = dd
        · have e6 : ((q : Int) != dd) = false := by simp [h6]
          have H6 := Lib.hid h6
          clear h6
          go_wp2_with fail
          go_meet
          case rel => exact ⟨HPRE.out _ (by rw [HDD.out]; simp [H5.out, H6.out]), rfl⟩
        · have e6 : ((q : Int) != dd) = true := by simp [h6]
          have H6 := Lib.hid h6
          clear h6
          go_wp2_with fail
          go_meet
          case rel => exact ⟨HPRE.out _ (by rw [HDD.out]; simp [H6.out]), rfl⟩
      · have e5 : ((r : Int) != 0) = true := by simp; omega
        have H5 := Lib.hid h5
        clear h5
        go_wp2_with fail
        go_meet
        case rel => exact ⟨HPRE.out _ (by simp [H5.out]), rfl⟩
  case rest =>
  obtain ⟨rfl, rfl⟩ := hcut
  clear hz
  have hsame : Hid (Pl.extends_ old h more g l = if old < 0 ∨ more < old ∨ (old = 0 ∧ h ≠ 0) ∨ r ≠ 0 ∨ (q : Int) ≠ more - old then false else Pl.heads (old.toNat + 1) h l == some g) := by
    rw [Hid]
    unfold Pl.extends_
    rw [HLM.out, HQ.out, HR.out]
    congr 1
    apply propext
    constructor
    · rintro (h | h | h | h | h)
      · exact .inl h
      · exact .inr (.inr (.inl h))
      · exact .inr (.inl h)
      · exact .inr (.inr (.inr (.inl h)))
      · exact .inr (.inr (.inr (.inr h)))
    · rintro (h | h | h | h | h)
      · exact .inl h
      · exact .inr (.inr (.inl h))
      · exact .inr (.inl h)
      · exact .inr (.inr (.inr (.inl h)))
      · exact .inr (.inr (.inr (.inr h)))
  by_cases hbad : old < 0 ∨ more < old ∨ (old = 0 ∧ h ≠ 0) ∨ r ≠ 0 ∨ (q : Int) ≠ more - old
  · rw [decide_eq_true hbad]
    have HBAD := Lib.hid hbad
    clear hbad
    go_wp2_with fail
    go_ret
    exact ⟨by rw [hsame.out, if_pos HBAD.out]; rfl, Below.refl _ _⟩
  rw [decide_eq_false hbad]
  have hext : Pl.extends_ old h more g l = (Pl.heads (old.toNat + 1) h l == some g) := by rw [hsame.out, if_neg hbad]
  have hg0 : ¬ old < 0 := fun h => hbad (.inl h)
  have hr0 : r = 0 := by
    by_cases h : r = 0
    · exact h
    · exact absurd (.inr (.inr (.inr (.inl h)))) hbad
  have hqq : (q : Int) = more - old := by
    by_cases h : (q : Int) = more - old
    · exact h
    · exact absurd (.inr (.inr (.inr (.inr h)))) hbad
  have hm13 : m = 13 * q := by have := HQ.out; have := HR.out; omega
  obtain ⟨o, rfl⟩ : ∃ o : Nat, old = o := ⟨old.toNat, by omega⟩
  rw [Int.toNat_natCast] at hext
  have hoq : o + q ≤ 9223372036854775807 := by omega
  have HEXT := Lib.hid hext
  have HM13 := Lib.hid hm13
  have hm13' : 13 * q ≤ m := by omega
  clear hbad hext hr0 hqq hm13 hr13 hsame
  go_wp2_with fail
  go_loopw [1, 11] (fun u i wr => ∃ (k x : Nat), k ≤ q ∧ i = .int .i64 k ∧ u = .string (hstr x) ∧ x < 4294967296 ∧ Hid (Below w.heap.size w wr) ∧ Hid (Pl.heads (o + 1) h l = Pl.heads (o + 1 + k) x (l.drop (13 * k)))) (fun _ i _ => q - (intOf i).toNat)
  case atStart => exact ⟨0, h, Nat.zero_le _, rfl, rfl, hh, Below.refl _ _, rfl⟩
  case round =>
    obtain ⟨k, x, hk, rfl, rfl, hx, HB, HHD⟩ := hrel
    by_cases hkq : k < q
    · have hkq1 : (k : Int) < (q : Int) := by omega
      have hmid := fun w => run_str_mid w l (13 * k) (13 * k + 13) (13 * k) 13 (by omega) (by omega) (by rw [HLM.out]; omega)
      rw [HST.out] at hmid
      obtain ⟨L, hL⟩ : ∃ L, l.drop (13 * k) = L := ⟨_, rfl⟩
      have hLl : 13 ≤ L.length := by rw [← hL, List.length_drop, HLM.out]; omega
      have HL := Lib.hid hL
      rw [hL] at hmid HHD
      obtain ⟨T, hT⟩ : ∃ T, L.take 13 = T := ⟨_, rfl⟩
      have hTl : T.length = 13 := by rw [← hT, List.length_take]; omega
      have hT9 : T.take 9 = L.take 9 := by rw [← hT, List.take_take]; congr 1
      rw [hT] at hmid
      have hcut9 := fun w => run_str_take w T 9 9 rfl (by omega)
      obtain ⟨b, hbe⟩ : ∃ b : Nat, (o : Int) + 1 + k = b := ⟨o + 1 + k, by omega⟩
      have HBE := Lib.hid (show b = o + 1 + k by omega)
      have hcat1 : ∀ w, (Op.stringOp .add (⟨#[66]⟩ : ByteArray) (tstr (Pl.be 4 b))).run Tryd.prog w = .ok (.string (tstr ([66] ++ Pl.be 4 b))) w := fun w => run_cat w [66] (Pl.be 4 b) (by simp [Pl.be_length])
      have hcat2 := fun w => run_cat w ([66] ++ Pl.be 4 b) (Pl.be 4 x) (by simp [Pl.be_length])
      have hcmp := tstr_beq (T.take 9) ([66] ++ Pl.be 4 b ++ Pl.be 4 x)
      obtain ⟨ss, hss⟩ : ∃ ss, tstr T = ss := ⟨_, rfl⟩
      have HSUM : ∀ w, _ := fun w => refSum_of ss T w (by rw [← hss]; rfl) (by omega)
      rw [hss] at hmid hcut9
      obtain ⟨s9, hs9⟩ : ∃ s9, tstr (T.take 9) = s9 := ⟨_, rfl⟩
      obtain ⟨sb, hsb⟩ : ∃ sb, tstr (Pl.be 4 b) = sb := ⟨_, rfl⟩
      obtain ⟨sc, hsc⟩ : ∃ sc, tstr ([66] ++ Pl.be 4 b) = sc := ⟨_, rfl⟩
      obtain ⟨sd, hsd⟩ : ∃ sd, tstr ([66] ++ Pl.be 4 b ++ Pl.be 4 x) = sd := ⟨_, rfl⟩
      obtain ⟨eqb, heqb⟩ : ∃ eqb, (T.take 9 == [66] ++ Pl.be 4 b ++ Pl.be 4 x) = eqb := ⟨_, rfl⟩
      rw [hs9] at hcut9 hcmp
      rw [hsb, hsc] at hcat1
      rw [hsc, ← hstr_tstr, hsd] at hcat2
      rw [hsd, heqb] at hcmp
      have hHEQ : eqb = decide (L.take 9 = 66 :: (Pl.be 4 b ++ Pl.be 4 x)) := by
        rw [← heqb, hT9, Bool.eq_iff_iff, beq_iff_eq, decide_eq_true_eq]
        simp
      have HHEQ := Lib.hid hHEQ
      have HSB := Lib.hid hsb
      have HSUM' := Lib.hid HSUM
      have HT := Lib.hid hT
      have HB0 := HB.out.size
      clear heqb hHEQ hT9 hL hT hTl hss hs9 hsb hsc hsd HSUM
      by_cases hb32 : b < 4294967296
      · have hb33 : ¬ (4294967295 : Int) < (b : Int) := by omega
        have hb34 : decide ((4294967295 : Int) < (b : Int)) = false := decide_eq_false hb33
        have hwrap : IntKind.u64.wrap (b : Int) = (b : Int) := by rw [IntKind.wrap_u64]; omega
        go_wp2_with fail
        go_region_held3 (fun _ => True) (trivial) (first
          | (go_at_call 28; refine (refBytes_any b 4 _ (by omega) (by omega)).mono ?_; rintro e w2 ⟨rfl, hb2⟩
             rw [show (⟨(Pl.be 4 b).toArray⟩ : ByteArray) = sb from HSB.out]
             have HB2 := Lib.hid (HB.out.trans ((undrew hb2).mono HB0))
             clear hb2)
          | fail)
        have HBS := HB2.out.size
        clear hwrap
        cases eqb with
        | false =>
          go_wp2_with fail
          go_ret
          refine ⟨?_, HB2.out⟩
          have h1 := HEXT.out
          have h2 := HHD.out
          have h3 := HHEQ.out
          rw [Pl.heads_bad (o + 1 + k) x L hLl (fun h => by rw [← HBE.out] at h; rw [decide_eq_true h.2] at h3; cases h3)] at h2
          rw [h1, h2]
          rfl
        | true =>
          have hgo : Pl.heads (o + 1) h l = Pl.heads (o + 1 + (k + 1)) (Pl.sumN T) (l.drop (13 * (k + 1))) := by
            have h3 := HHEQ.out
            have hLn : l.drop (13 * (k + 1)) = L.drop 13 := by rw [← HL.out, List.drop_drop]; congr 1
            rw [HHD.out, hLn, Pl.heads_go (o + 1 + k) x L hLl (by rw [← HBE.out]; exact hb32) (by rw [← HBE.out]; simpa using h3.symm), HT.out]
            congr 1
          have HGO := Lib.hid hgo
          clear hgo
          go_wp2_with fail
          refine (HSUM'.out w2).mono ?_
          rintro e w3 ⟨rfl, hb3⟩
          have HB3 := Lib.hid (HB2.out.trans (hb3.mono HBS))
          clear hb3
          go_wp2_with fail
          exact ⟨⟨k + 1, Pl.sumN T, by omega, rfl, rfl, Nat.lt_trans (Pl.sumN_lt _) (by decide), HB3.out, HGO.out⟩, by simp [intOf]; omega⟩
      · have hb33 : (4294967295 : Int) < (b : Int) := by omega
        have hb34 : decide ((4294967295 : Int) < (b : Int)) = true := decide_eq_true hb33
        go_wp2_with fail
        go_quiet (fail)
        go_wp2_with fail
        go_ret
        refine ⟨?_, below_drewN HB.out _⟩
        have h1 := HEXT.out
        have h2 := HHD.out
        rw [Pl.heads_bad (o + 1 + k) x L hLl (fun h => by have := HBE.out; omega)] at h2
        rw [h1, h2]
        rfl
    · obtain rfl : k = q := by omega
      have hcmp := hstr_beq x g hx hgg
      have hqk : ¬ (k : Int) < (k : Int) := by omega
      go_wp2_with fail
      go_ret
      refine ⟨?_, HB.out⟩
      have h1 := HEXT.out
      have h2 := HHD.out
      rw [Pl.heads_short (o + 1 + k) x (l.drop (13 * k)) (by rw [List.length_drop, HLM.out]; have := HM13.out; omega)] at h2
      rw [h1, h2]
      by_cases hxg : x = g
      · simp [hxg]
      · simp [hxg]
end Go.Proofs.YtljmklohgpaopaaDoor
