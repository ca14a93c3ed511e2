/- The walk of the chain's Clash, where the shape is right. The document's Pasts. The document's Summed. -/
import Derived.Test.YtljmklohgpaopaaGreatDoorMgClashes20
import Derived.Test.YtljmklohgpaopaaGreatDoorMgClashes18
set_option linter.unusedVariables false
set_option linter.unusedSimpArgs false

namespace Go.Proofs.YtljmklohgpaopaaGreatDoor
open Go.RowKit

theorem txOk_of {ls : List (List UInt8)} (h : ∀ l ∈ ls, Pl.readTx l ≠ none) {k : Nat} (hk : k < ls.length) : Pl.TxOk (Pl.txAt (txsOf ls) k) := by
  obtain ⟨l, hl⟩ : ∃ l, ls[k]? = some l := ⟨_, List.getElem?_eq_getElem hk⟩
  cases ht : Pl.readTx l with
  | none => exact absurd ht (h l (List.mem_of_getElem? hl))
  | some t => rw [txAt_of hl ht]; exact ((Pl.readTx_iff l t).1 ht).1
theorem Kept.of_bytes {W : World} {A : Option Addr} {l : List UInt8} {n cap : Nat} (h : BytesAt W A l) (hl : l.length = n) (h0 : 0 < n) (hc : n ≤ cap) (hm : n ≤ 140737488351232) {lo : Nat} (hlo : ∀ p, A = some p → lo ≤ p.block) : Kept lo W (.slice A n cap) (some l) := by
  rcases h with rfl | ⟨b, off, rfl, h⟩
  · simp at hl; omega
  · exact ⟨b, off, n, cap, rfl, hl, hc, hm, hlo _ rfl, .inr ⟨b, off, rfl, h⟩⟩
theorem ents_short (T : List Pl.Txn) (i : Nat) : ∀ l ∈ Pl.ents T i, l.length ≤ 5000 := by
  intro l hl
  simp only [Pl.ents, List.mem_cons, List.not_mem_nil, or_false] at hl
  rcases hl with rfl | rfl | rfl <;> simp [Pl.entryOf, Pl.entry, Pl.be_length]
theorem txTexts_short {t : Pl.Txn} (h : Pl.TxOk t) : ∀ l ∈ Pl.txTexts t, l.length ≤ 5000 := by
  intro l hl
  unfold Pl.txTexts at hl
  obtain ⟨o, ho, rfl⟩ := List.mem_map.1 hl
  exact encOp_len (h.2.2 o ho)
theorem clashAt_tx {T U : List Pl.Txn} {i d : Nat} {z : List UInt8 × List UInt8} (h1 : Pl.hdr T i = Pl.hdr U i) (h2 : Pl.parts (Pl.ttexts (Pl.ents T i)) (Pl.ttexts (Pl.ents U i)) = none) (h3 : ∀ d', d' < d → Pl.txParts T U (3 * i + d') = none) (hd : d < 3)
    (hz : Pl.txParts T U (3 * i + d) = some z) : Pl.clashAt T U i = some z := by
  unfold Pl.clashAt
  rw [if_pos h1, h2]
  match d, hd with
  | 0, _ => rw [Nat.add_zero] at hz; rw [hz]
  | 1, _ =>
    have := h3 0 (by omega)
    rw [Nat.add_zero] at this
    rw [this, hz]
  | 2, _ =>
    have e0 := h3 0 (by omega)
    have e1 := h3 1 (by omega)
    rw [Nat.add_zero] at e0
    simp only [e0, e1, hz]
theorem clashAt_none {T U : List Pl.Txn} {i : Nat} (h1 : Pl.hdr T i = Pl.hdr U i) (h2 : Pl.parts (Pl.ttexts (Pl.ents T i)) (Pl.ttexts (Pl.ents U i)) = none) (h3 : ∀ d', d' < 3 → Pl.txParts T U (3 * i + d') = none) : Pl.clashAt T U i = none := by
  unfold Pl.clashAt
  have e0 := h3 0 (by omega)
  have e1 := h3 1 (by omega)
  have e2 := h3 2 (by omega)
  rw [Nat.add_zero] at e0
  rw [if_pos h1, h2]
  simp only [e0, e1, e2]
theorem clashDown_succ (P Q : List Pl.Txn) (i : Nat) : Pl.clashDown P Q (i + 1) = match Pl.clashAt P Q i with
    | some x => some x
    | none => Pl.clashDown P Q i := rfl
set_option maxHeartbeats 4000000 in
set_option maxRecDepth 100000 in
theorem clash_go (n : Nat) (ls ms : List (List UInt8)) (A B : Option Addr) (cap cap2 : Nat) (w : World) (hA : BR w (· < w.heap.size) A ls) (hB : BR w (· < w.heap.size) B ms) (hn : ls.length = n) (hm : ms.length = n) (hn1 : n ≤ 1048576) (hc1 : n ≤ cap) (hc2 : n ≤ cap2) (h0 : n ≠ 0) (h3 : n % 3 = 0) :
    Calls Tryz.prog 66 #[.slice A n cap, .slice B n cap2] w (ClashPost w ls ms) := by
  have B1 := Lib.hid (blocks_any n ls A cap w hA hn hc1 h3 hn1)
  have q1 : ((n : Int) != (n : Int)) = false := by simp
  have q2 : ((n : Int) == 0) = false := beq_eq_false_iff_ne.2 (by omega)
  have q3 : ((n : Int) % 3 != 0) = false := by simp; omega
  have q4 : ((n : Int).tmod 3 != 0) = false := by rw [Int.tmod_eq_emod_of_nonneg (by omega)]; exact q3
  have HB := Lib.hid hB
  have HN := Lib.hid hn
  have HM := Lib.hid hm
  have H3 := Lib.hid h3
  clear hA hB hn hm h3
  go_enter Tryz.func66, Tryz.ntmps66
  go_wp2_with fail
  refine B1.out.mono ?_
  intro e w1 hw1
  have hb1 : Below w.heap.size w w1 := by rcases hw1 with h | ⟨_, _, _, _, h⟩; exact h.2.2; exact h
  have hww1 := Lib.hid hb1.size
  have B2 := Lib.hid (blocks_any n ms B cap2 w1 ((HB.out.keepB hb1 (fun _ h => h)).mono (fun b (hb : b < w.heap.size) => Nat.lt_of_lt_of_le hb hb1.size)) HM.out hc2 H3.out hn1)
  have HB1 := Lib.hid hb1
  have hbad : ∀ w', Below w.heap.size w w' → ((∃ l ∈ ls, Pl.readTx l = none) ∨ ∃ l ∈ ms, Pl.readTx l = none) → ClashPost w ls ms (.returned (.tuple #[.slice none 0 0, .slice none 0 0, errK 20])) w' := by
    intro w' hb h
    refine ⟨hb, .inl ⟨fun h' => ?_, rfl⟩⟩
    rcases h with ⟨l, h1, h2⟩ | ⟨l, h1, h2⟩
    · exact h'.2.2.2.1 l h1 h2
    · exact h'.2.2.2.2 l h1 h2
  have HBAD := Lib.hid hbad
  unfold errK at HBAD
  clear hb1 hbad
  rcases hw1 with ⟨hno, rfl, _⟩ | ⟨hall1, va, rfl, hoa, _⟩
  · have HNO := Lib.hid hno
    clear hno
    go_wp2_with fail
    refine B2.out.mono ?_
    intro e w2 hw2
    rcases hw2 with ⟨_, rfl, hb2⟩ | ⟨_, vb, rfl, _, hb2⟩
    all_goals
      have HB2 := Lib.hid (HB1.out.trans (hb2.mono HB1.out.size))
      clear hb2
      go_wp2_with fail
      go_ret3
      exact HBAD.out _ HB2.out (.inl HNO.out)
  · have HALL1 := Lib.hid hall1
    obtain ⟨Aa, ca, rfl, hca, hka⟩ := hoa.bks
    have HKA := Lib.hid hka
    clear hall1 hoa hka
    go_wp2_with fail
    refine B2.out.mono ?_
    intro e w2 hw2
    rcases hw2 with ⟨hno, rfl, hb2⟩ | ⟨hall2, vb, rfl, hob, hb2⟩
    · have HB2 := Lib.hid (HB1.out.trans (hb2.mono HB1.out.size))
      have HNO := Lib.hid hno
      clear hb2 hno
      go_wp2_with fail
      go_ret3
      exact HBAD.out _ HB2.out (.inr HNO.out)
    · obtain ⟨Ab, cb, rfl, hcb, hkb⟩ := hob.bks
      obtain ⟨N, hN⟩ : ∃ N, n / 3 = N := ⟨_, rfl⟩
      obtain ⟨S, hS⟩ : ∃ S, w2.heap.size = S := ⟨_, rfl⟩
      rw [hN] at hca hcb HKA hkb ⊢
      rw [hS] at hkb
      have hkA := Lib.hid ((HKA.out.keep hb2).more (B' := S) (by have := hb2.size; omega))
      have hkB := Lib.hid hkb
      have HB2 := Lib.hid (HB1.out.trans (hb2.mono HB1.out.size))
      have HALL2 := Lib.hid hall2
      obtain ⟨T, hT⟩ : ∃ T, txsOf ls = T := ⟨_, rfl⟩
      obtain ⟨U, hU⟩ : ∃ U, txsOf ms = U := ⟨_, rfl⟩
      rw [hT] at hkA
      rw [hU] at hkB
      have HTT := Lib.hid hT
      have HUU := Lib.hid hU
      have HNN := Lib.hid hN
      have hN1 : 1 ≤ N := by have := H3.out; omega
      have hNn : N ≤ 1048576 := by omega
      have hgood : ∀ (w' : World) (e' : Ending), Below w.heap.size w w' → (((Pl.hashAt T N ≠ Pl.hashAt U N ∨ Pl.clashDown T U N = none) ∧ e' = .returned (.tuple #[.slice none 0 0, .slice none 0 0, errK 21])) ∨ (Pl.hashAt T N = Pl.hashAt U N ∧ ∃ x y xv yv, Pl.clashDown T U N = some (x, y) ∧ Kept w.heap.size w' xv (some x) ∧ Kept w.heap.size w' yv (some y) ∧ e' = .returned (.tuple #[xv, yv, .nilIface]))) → ClashPost w ls ms e' w' := by
        intro w' e' hb h
        refine ⟨hb, .inr ⟨by rw [HN.out, HM.out], by rw [HN.out]; exact h0, by rw [HN.out]; exact H3.out, HALL1.out, HALL2.out, ?_⟩⟩
        rw [HN.out, HNN.out, HTT.out, HUU.out]
        exact h
      have HG := Lib.hid hgood
      unfold errK at HG
      have hokT : ∀ k, k < 3 * N → Pl.TxOk (Pl.txAt T k) := fun k hk => by rw [← HTT.out]; exact txOk_of HALL1.out (by have := HN.out; have := HNN.out; omega)
      have hokU : ∀ k, k < 3 * N → Pl.TxOk (Pl.txAt U k) := fun k hk => by rw [← HUU.out]; exact txOk_of HALL2.out (by have := HM.out; have := HNN.out; omega)
      have HOT := Lib.hid hokT
      have HOU := Lib.hid hokU
      obtain ⟨M, hM⟩ : ∃ M, N = M + 1 := ⟨N - 1, by omega⟩
      subst hM
      obtain ⟨b1, o1, Ah1, ch1, Ae1, ce1, At1, ct1, rfl, F1⟩ := hkA.out.at_ (show M < M + 1 by omega)
      obtain ⟨b2, o2, Ah2, ch2, Ae2, ce2, At2, ct2, rfl, F2⟩ := hkB.out.at_ (show M < M + 1 by omega)
      have c1 := F1.c0
      have c2 := F2.c0
      have HC := Lib.hid (And.intro c1 c2)
      have hs1 := chainHash_any Ah1 ch1 (Pl.hdr T M) w2.drew F1.hd (by rw [Pl.hdr, Pl.header_length]; omega)
      rw [show (Pl.hdr T M).length = 13 from Pl.header_length _ _ _, show Pl.sumN (Pl.hdr T M) = Pl.hashAt T (M + 1) from rfl] at hs1
      unfold hashVal at hs1
      have HS1 := Lib.hid hs1
      have HF2 := Lib.hid F2.hd
      have hx1 : (M : Int) < (M : Int) + 1 := by omega
      have hx2 : (0 : Int) ≤ (M : Int) := by omega
      have HS0 := Lib.hid hS
      clear hN hS hT hU hall2 hob hkb hb2 hgood hokT hokU c1 c2 hs1
      have hhT : Pl.hashAt T (M + 1) < 4294967296 := Nat.lt_trans (Pl.hashAt_lt T _) (by decide)
      have hhU : Pl.hashAt U (M + 1) < 4294967296 := Nat.lt_trans (Pl.hashAt_lt U _) (by decide)
      have hneq := fun W => run_neq_hash (Pl.hashAt T (M + 1)) (Pl.hashAt U (M + 1)) hhT hhU W
      obtain ⟨hd, hhd⟩ : ∃ b, (!decide (Pl.hashAt T (M + 1) = Pl.hashAt U (M + 1))) = b := ⟨_, rfl⟩
      rw [hhd] at hneq
      unfold hashVal at hneq
      have HHD := Lib.hid hhd
      clear hhd hhT hhU
      go_wp2_with fail
      go_region_held3 (fun W : World => W.cell? ⟨b1, o1 + M * 3, none⟩ = some (.slice Ah1 13 ch1) ∧ W.cell? ⟨b2, o2 + M * 3, none⟩ = some (.slice Ah2 13 ch2)) (first | exact HC.out | exact S3.out | exact S4.out) (first
        | (go_at_call 107
           (with_reducible refine HS1.out.mono ?_)
           rintro e w3 ⟨rfl, hb3⟩
           have S3 := Lib.hid (And.intro (below_keeps hb3 _ _ HC.out.1) (below_keeps hb3 _ _ HC.out.2))
           have hs2 := chainHash_any Ah2 ch2 (Pl.hdr U M) w3 (HF2.out.keep (below_undrew hb3)) (by rw [Pl.hdr, Pl.header_length]; omega)
           rw [show (Pl.hdr U M).length = 13 from Pl.header_length _ _ _, show Pl.sumN (Pl.hdr U M) = Pl.hashAt U (M + 1) from rfl] at hs2
           unfold hashVal at hs2
           have HS2 := Lib.hid hs2
           have HB3 := Lib.hid (below_undrew hb3)
           clear hs2 hb3)
        | (go_at_call 107
           (with_reducible refine HS2.out.mono ?_)
           rintro e w4 ⟨rfl, hb4⟩
           have S4 := Lib.hid (And.intro (below_keeps hb4 _ _ S3.out.1) (below_keeps hb4 _ _ S3.out.2))
           have HB4 := Lib.hid (HB3.out.trans (hb4.mono HB3.out.size))
           clear hb4)
        | fail)
      have HBW4 : Hid (Below w.heap.size w w4) := HB2.out.trans (HB4.out.mono HB2.out.size)
      cases hd with
      | true =>
        have hne : Pl.hashAt T (M + 1) ≠ Pl.hashAt U (M + 1) := by have := HHD.out; simpa using this
        have HNE := Lib.hid hne
        clear hne
        go_wp2_with fail
        go_ret3
        exact HG.out _ _ HBW4.out (.inl ⟨.inl HNE.out, rfl⟩)
      | false =>
        have heq : Pl.hashAt T (M + 1) = Pl.hashAt U (M + 1) := by have := HHD.out; simpa using this
        have HEQ := Lib.hid heq
        have HB5 : Hid (Below S w2 w4) := by rw [Hid, ← HS0.out]; exact HB4.out
        have hkA4 := Lib.hid (hkA.out.keep HB5.out)
        have hkB4 := Lib.hid (hkB.out.keep HB5.out)
        have HSW : Hid (w.heap.size ≤ S) := by rw [Hid, ← HS0.out]; exact HB2.out.size
        clear heq
        go_wp2_with fail
        go_loopw [13] (fun iv W => ∃ r : Nat, r ≤ M + 1 ∧ iv = .int .i64 ((r : Int) - 1) ∧ Hid (Pl.clashDown T U (M + 1) = Pl.clashDown T U r) ∧ Hid (Below S w4 W)) (fun iv _ => (intOf iv + 1).toNat)
        case atStart => exact ⟨M + 1, Nat.le_refl _, by rw [show (((M + 1 : Nat)) : Int) - 1 = (M : Int) by omega], rfl, Below.refl _ _⟩
        case round =>
          obtain ⟨r, hr, rfl, HCD, HBR⟩ := hrel
          by_cases hr0 : r = 0
          · subst hr0
            have z1 : ¬ (0 : Int) ≤ ((0 : Nat) : Int) - 1 := by omega
            go_wp2_with fail
            go_ret3
            exact HG.out _ _ (HBW4.out.trans (HBR.out.mono HSW.out)) (.inl ⟨.inr (by rw [HCD.out]; rfl), rfl⟩)
          · obtain ⟨i, hi⟩ : ∃ i, r = i + 1 := ⟨r - 1, by omega⟩
            subst hi
            rw [show (((i + 1 : Nat)) : Int) - 1 = (i : Int) by omega]
            obtain ⟨b1', o1', Ah3, ch3, Ae3, ce3, At3, ct3, e1', G1⟩ := (hkA4.out.keep HBR.out).at_ (show i < M + 1 by omega)
            obtain ⟨b2', o2', Ah4, ch4, Ae4, ce4, At4, ct4, e2', G2⟩ := (hkB4.out.keep HBR.out).at_ (show i < M + 1 by omega)
            cases e1'
            cases e2'
            have HG1 := Lib.hid G1
            have HG2 := Lib.hid G2
            have HCE := Lib.hid (And.intro G1.c0 G2.c0)
            have hq := bytesEqual_any Ah3 Ah4 (Pl.hdr T i) (Pl.hdr U i) ch3 ch4 wr.drew G1.hd G2.hd
            rw [show (Pl.hdr T i).length = 13 from Pl.header_length _ _ _, show (Pl.hdr U i).length = 13 from Pl.header_length _ _ _] at hq
            obtain ⟨he, hhe⟩ : ∃ b, (Pl.hdr T i == Pl.hdr U i) = b := ⟨_, rfl⟩
            rw [hhe] at hq
            have HQ := Lib.hid hq
            have HHE := Lib.hid hhe
            have z1 : (0 : Int) ≤ (i : Int) := by omega
            have z2 : (i : Int) < (M : Int) + 1 := by omega
            clear G1 G2 hq hhe hr0
            go_wp2_with fail
            go_region_held3 (fun W : World => W.cell? ⟨b1, o1 + i * 3, none⟩ = some (.slice Ah3 13 ch3) ∧ W.cell? ⟨b2, o2 + i * 3, none⟩ = some (.slice Ah4 13 ch4)) (exact HCE.out) (first
              | (go_at_call 108
                 (with_reducible refine HQ.out.mono ?_)
                 rintro e w' ⟨rfl, rfl⟩)
              | fail)
            cases he with
            | false =>
              have hne : Pl.clashAt T U i = some (Pl.hdr T i, Pl.hdr U i) := by
                have := HHE.out
                unfold Pl.clashAt
                rw [if_neg (by simpa using this)]
              have HNE : Hid (Pl.clashDown T U (M + 1) = some (Pl.hdr T i, Pl.hdr U i)) := by rw [Hid, HCD.out, clashDown_succ, hne]
              clear hne
              go_wp2_with fail
              go_region_held3 (fun W : World => W.cell? ⟨b1, o1 + i * 3, none⟩ = some (.slice Ah3 13 ch3) ∧ W.cell? ⟨b2, o2 + i * 3, none⟩ = some (.slice Ah4 13 ch4)) (exact HCE.out) (fail)
              go_wp2_with fail
              go_ret3
              refine HG.out _ _ ((HBW4.out.trans (HBR.out.mono HSW.out)).drew.drew) (.inr ⟨HEQ.out, _, _, _, _, HNE.out, Kept.of_bytes HG1.out.hd (Pl.header_length _ _ _) (by omega) HG1.out.h13 (by omega) (fun p hp => HG1.out.hlo p hp), Kept.of_bytes HG2.out.hd (Pl.header_length _ _ _) (by omega) HG2.out.h13 (by omega) (fun p hp => Nat.le_trans hww1.out (HG2.out.hlo p hp)), rfl⟩)
            | true =>
              have heqh : Pl.hdr T i = Pl.hdr U i := by have := HHE.out; simpa using this
              have HEH := Lib.hid heqh
              obtain ⟨be1, oe1, rfl⟩ := HG1.out.ents.bb.addr (by rw [Pl.ents_length]; omega)
              obtain ⟨be2, oe2, rfl⟩ := HG2.out.ents.bb.addr (by rw [Pl.ents_length]; omega)
              have hSr : S ≤ wr.heap.size := by rw [← HS0.out]; exact Nat.le_trans HB5.out.size HBR.out.size
              have hdr2 : Only (fun _ => False) wr wr.drew.drew := ((Only.refl _ wr).drew).drew
              have HAP := Lib.hid (apart_any be1 oe1 ce3 be2 oe2 ce4 3 3 (Pl.ents T i) (Pl.ents U i) wr.drew.drew ((HG1.out.ents.only hdr2 (fun _ _ h => h)).mono (fun b (hb : b < S) => Nat.lt_of_lt_of_le hb hSr)) ((HG2.out.ents.only hdr2 (fun _ _ h => h)).mono (fun b (hb : b < S) => Nat.lt_of_lt_of_le hb hSr)) rfl rfl (by omega) (by omega) (by omega) HG1.out.he HG2.out.he (ents_short T i) (ents_short U i))
              have HCF := Lib.hid (And.intro HG1.out.c1 HG2.out.c1)
              clear heqh hdr2
              go_wp2_with fail
              go_region_held3 (fun W : World => W.cell? ⟨b1, o1 + i * 3 + 1, none⟩ = some (.slice (some ⟨be1, oe1, none⟩) 3 ce3) ∧ W.cell? ⟨b2, o2 + i * 3 + 1, none⟩ = some (.slice (some ⟨be2, oe2, none⟩) 3 ce4)) (first | exact HCF.out | exact S5.out) (first
                | (go_at_call 109
                   (with_reducible refine HAP.out.mono ?_)
                   rintro e w5 ⟨xv, yv, rfl, hx, hy, hb5⟩
                   have HX := Lib.hid hx
                   have HY := Lib.hid hy
                   have hbb5 : Below wr.heap.size wr w5 := below_undrew (below_undrew hb5)
                   have S5 := Lib.hid (And.intro (below_keeps hbb5 _ _ HCF.out.1) (below_keeps hbb5 _ _ HCF.out.2))
                   have C5 := Lib.hid (And.intro (below_keeps hbb5 _ _ HG1.out.c2) (below_keeps hbb5 _ _ HG2.out.c2))
                   have HB6 : Hid (Below S w4 w5) := HBR.out.trans (hbb5.mono hSr)
                   clear hx hy hb5 hbb5)
                | fail)
              obtain ⟨o, ho⟩ : ∃ o, Pl.parts (Pl.ttexts (Pl.ents T i)) (Pl.ttexts (Pl.ents U i)) = o := ⟨_, rfl⟩
              have HO := Lib.hid ho
              rw [ho] at HX HY ⊢
              clear ho
              cases o with
              | some z =>
                have HNE : Hid (Pl.clashDown T U (M + 1) = some (z.1, z.2)) := by
                  rw [Hid, HCD.out, clashDown_succ]
                  unfold Pl.clashAt
                  rw [if_pos HEH.out, HO.out]
                go_wp2_with fail
                go_ret3
                exact HG.out _ _ (HBW4.out.trans (HB6.out.mono HSW.out)) (.inr ⟨HEQ.out, _, _, _, _, HNE.out, HX.out.low (Nat.le_trans HBW4.out.size HBR.out.size), HY.out.low (Nat.le_trans HBW4.out.size HBR.out.size), rfl⟩)
              | none =>
                rw [show (none : Option (List UInt8 × List UInt8)).isSome = false from rfl]
                have cc1 := C5.out.1
                go_wp2_with fail
                go_loopw [122] (fun iv W => ∃ d : Nat, d ≤ 3 ∧ iv = .int .i64 (d : Int) ∧ Hid (∀ d', d' < d → Pl.txParts T U (3 * i + d') = none) ∧ Hid (Below S w4 W)) (fun iv _ => 3 - (intOf iv).toNat)
                case atStart => exact ⟨0, by omega, rfl, fun d' h => by omega, HB6.out⟩
                case round =>
                  obtain ⟨d, hd, rfl, HTP, HBD⟩ := hrel
                  clear cc1
                  by_cases hd3 : d < 3
                  · obtain ⟨b1', o1', Ah5, ch5, Ae5, ce5, At5, ct5, e1', G1⟩ := (hkA4.out.keep HBD.out).at_ (show i < M + 1 by omega)
                    obtain ⟨b2', o2', Ah6, ch6, Ae6, ce6, At6, ct6, e2', G2⟩ := (hkB4.out.keep HBD.out).at_ (show i < M + 1 by omega)
                    cases e1'
                    cases e2'
                    obtain ⟨bt1, ot1, v10, v11, rfl, t10, t11, hR1⟩ := G1.tx hd3
                    obtain ⟨bt2, ot2, v20, v21, rfl, t20, t21, hR2⟩ := G2.tx hd3
                    have hx1 := HOT.out (3 * i + d) (by omega)
                    have hx2 := HOU.out (3 * i + d) (by omega)
                    obtain ⟨tt, htt⟩ : ∃ t, Pl.txAt T (3 * i + d) = t := ⟨_, rfl⟩
                    obtain ⟨uu, huu⟩ : ∃ t, Pl.txAt U (3 * i + d) = t := ⟨_, rfl⟩
                    rw [htt] at hR1 hx1
                    rw [huu] at hR2 hx2
                    have hSr : S ≤ wr.heap.size := by rw [← HS0.out]; exact Nat.le_trans HB5.out.size HBD.out.size
                    have HTX1 := Lib.hid (texts_any (· < S) [v10, v11] tt wr.drew (hR1.only (Only.refl (fun _ => False) wr).drew (fun _ _ h => h)) (fun b (hb : b < S) => Nat.lt_of_lt_of_le hb hSr) hx1.2.2 (by have := hx1.2.1; omega))
                    have HPO : Hid (Pl.txParts T U (3 * i + d) = Pl.parts (Pl.ttexts (Pl.txTexts tt)) (Pl.ttexts (Pl.txTexts uu))) := by rw [Hid, ← htt, ← huu]; rfl
                    have HC6 := Lib.hid (show _ ∧ _ ∧ _ ∧ _ ∧ _ ∧ _ from ⟨G1.c2, G2.c2, t10, t11, t20, t21⟩)
                    obtain ⟨p1, hp1⟩ : ∃ p, ot1 + d * 2 = p := ⟨_, rfl⟩
                    have y1 : (d : Int) < 3 := by omega
                    have y2 : (0 : Int) ≤ (d : Int) := by omega
                    have HX1 := Lib.hid hx1
                    have HX2 := Lib.hid hx2
                    have HR2 := Lib.hid hR2
                    clear G1 G2 t10 t11 t20 t21 hR1 hR2 hx1 hx2 htt huu hp1
                    go_wp2_with fail
                    go_region_held3 (fun W : World => W.cell? ⟨b1, o1 + i * 3 + 2, none⟩ = some (.slice (some ⟨bt1, ot1, none⟩) 3 ct5) ∧ W.cell? ⟨b2, o2 + i * 3 + 2, none⟩ = some (.slice (some ⟨bt2, ot2, none⟩) 3 ct6) ∧ W.cell? ⟨bt1, ot1 + d * 2, none⟩ = some v10 ∧ W.cell? ⟨bt1, ot1 + d * 2 + 1, none⟩ = some v11 ∧ W.cell? ⟨bt2, ot2 + d * 2, none⟩ = some v20 ∧ W.cell? ⟨bt2, ot2 + d * 2 + 1, none⟩ = some v21) (first | exact HC6.out | exact S6.out | exact S7.out | exact S8.out) (first
                      | (go_at_call 110
                         (with_reducible refine HTX1.out.mono ?_)
                         rintro e w6 ⟨va, rfl, o6, hb6⟩
                         have bb6 : Below wr.heap.size wr w6 := below_undrew hb6
                         have S6 := Lib.hid (show _ ∧ _ ∧ _ ∧ _ ∧ _ ∧ _ from ⟨below_keeps bb6 _ _ HC6.out.1, below_keeps bb6 _ _ HC6.out.2.1, below_keeps bb6 _ _ HC6.out.2.2.1, below_keeps bb6 _ _ HC6.out.2.2.2.1, below_keeps bb6 _ _ HC6.out.2.2.2.2.1, below_keeps bb6 _ _ HC6.out.2.2.2.2.2⟩)
                         have O6 := Lib.hid o6
                         have B6 := Lib.hid bb6
                         have HTX2 := Lib.hid (texts_any (· < S) [v20, v21] uu w6 (HR2.out.only (Only.of_below bb6 (fun _ => False)) (fun _ _ h => h)) (fun b (hb : b < S) => Nat.lt_of_lt_of_le hb (Nat.le_trans hSr bb6.size)) HX2.out.2.2 (by have := HX2.out.2.1; omega))
                         clear hb6 o6 bb6)
                      | (go_at_call 110
                         (with_reducible refine HTX2.out.mono ?_)
                         rintro e w7 ⟨vb, rfl, o7, bb7⟩
                         have S7 := Lib.hid (show _ ∧ _ ∧ _ ∧ _ ∧ _ ∧ _ from ⟨below_keeps bb7 _ _ S6.out.1, below_keeps bb7 _ _ S6.out.2.1, below_keeps bb7 _ _ S6.out.2.2.1, below_keeps bb7 _ _ S6.out.2.2.2.1, below_keeps bb7 _ _ S6.out.2.2.2.2.1, below_keeps bb7 _ _ S6.out.2.2.2.2.2⟩)
                         have o6' : BL w7 _ va _ := O6.out.below SlR.fr bb7
                         obtain ⟨Aa6, ca6, hva, hca6, hbr6⟩ := o6'.br
                         obtain ⟨Ab7, cb7, hvb, hcb7, hbr7⟩ := o7.br
                         obtain ⟨ba6, oa6, rfl⟩ := hbr6.bb.addr (by have := HX1.out.2.1; rw [List.length_map]; omega)
                         obtain ⟨bb7', ob7, rfl⟩ := hbr7.bb.addr (by have := HX2.out.2.1; rw [List.length_map]; omega)
                         rw [List.length_map] at hva hca6 hvb hcb7
                         have HAP := Lib.hid (apart_any ba6 oa6 ca6 bb7' ob7 cb7 tt.ops.length uu.ops.length (Pl.txTexts tt) (Pl.txTexts uu) w7 (hbr6.mono (fun b hb => hb.2)) (hbr7.mono (fun b hb => hb.2)) (List.length_map ..) (List.length_map ..) HX1.out.2.1.1 HX1.out.2.1.2 HX2.out.2.1.2 hca6 hcb7 (txTexts_short HX1.out) (txTexts_short HX2.out))
                         have B7 := Lib.hid (B6.out.trans (bb7.mono B6.out.size))
                         subst hva hvb
                         clear o6' o7 bb7 hca6 hcb7 hbr6 hbr7)
                      | (go_at_call 109
                         (with_reducible refine HAP.out.mono ?_)
                         rintro e w8 ⟨xv8, yv8, rfl, hx8, hy8, bb8⟩
                         have S8 := Lib.hid (show _ ∧ _ ∧ _ ∧ _ ∧ _ ∧ _ from ⟨below_keeps bb8 _ _ S7.out.1, below_keeps bb8 _ _ S7.out.2.1, below_keeps bb8 _ _ S7.out.2.2.1, below_keeps bb8 _ _ S7.out.2.2.2.1, below_keeps bb8 _ _ S7.out.2.2.2.2.1, below_keeps bb8 _ _ S7.out.2.2.2.2.2⟩)
                         have HX8 := Lib.hid hx8
                         have HY8 := Lib.hid hy8
                         have HB8 : Hid (Below S w4 w8) := HBD.out.trans ((B7.out.trans (bb8.mono B7.out.size)).mono hSr)
                         clear hx8 hy8 bb8)
                      | fail)
                    obtain ⟨o, ho⟩ : ∃ o, Pl.parts (Pl.ttexts (Pl.txTexts tt)) (Pl.ttexts (Pl.txTexts uu)) = o := ⟨_, rfl⟩
                    rw [ho] at HX8 HY8 HPO ⊢
                    clear ho
                    cases o with
                    | some z =>
                      have HNE : Hid (Pl.clashDown T U (M + 1) = some (z.1, z.2)) := by
                        rw [Hid, HCD.out, clashDown_succ, clashAt_tx HEH.out HO.out HTP.out hd3 HPO.out]
                      go_wp2_with fail
                      go_ret3
                      exact HG.out _ _ (HBW4.out.trans (HB8.out.mono HSW.out)) (.inr ⟨HEQ.out, _, _, _, _, HNE.out, HX8.out.low (Nat.le_trans HBW4.out.size (Nat.le_trans HBD.out.size B7.out.size)), HY8.out.low (Nat.le_trans HBW4.out.size (Nat.le_trans HBD.out.size B7.out.size)), rfl⟩)
                    | none =>
                      have HTP2 : Hid (∀ d', d' < d + 1 → Pl.txParts T U (3 * i + d') = none) := fun d' h' => by
                        by_cases e : d' < d
                        · exact HTP.out d' e
                        · obtain rfl : d' = d := by omega
                          exact HPO.out
                      go_wp2_with fail
                      exact ⟨⟨d + 1, by omega, by go_num, HTP2.out, HB8.out⟩, by simp [intOf]; omega⟩
                  · obtain rfl : d = 3 := by omega
                    have HCD2 : Hid (Pl.clashDown T U (M + 1) = Pl.clashDown T U i) := by rw [Hid, HCD.out, clashDown_succ, clashAt_none HEH.out HO.out HTP.out]
                    go_wp2_with fail
                    exact ⟨⟨i, by omega, by go_num, HCD2.out, HBD.out⟩, by simp [intOf]⟩
theorem clash_any (n m : Nat) (ls ms : List (List UInt8)) (A B : Option Addr) (cap cap2 : Nat) (w : World) (hA : BR w (· < w.heap.size) A ls) (hB : BR w (· < w.heap.size) B ms) (hn : ls.length = n) (hm : ms.length = m) (hn1 : n ≤ 1048576) (hm1 : m ≤ 1048576) (hc1 : n ≤ cap) (hc2 : m ≤ cap2) :
    Calls Tryz.prog 66 #[.slice A n cap, .slice B m cap2] w (ClashPost w ls ms) := by
  by_cases h : n = m ∧ n ≠ 0 ∧ n % 3 = 0
  · obtain ⟨rfl, h0, h3⟩ := h
    exact clash_go n ls ms A B cap cap2 w hA hB hn hm hn1 hc1 hc2 h0 h3
  · exact clash_shape n m ls ms A B cap cap2 w hn hm hn1 hm1 h
end Go.Proofs.YtljmklohgpaopaaGreatDoor

namespace Go.Proofs.YtljmklohgpaopaaGreatDoor
open Go.RowKit

abbrev TxL := OL 90 2 TxR
theorem Tryz.infoTxR : (Tryz.prog.info? 90).map (fun i => (i.zero, i.size, i.bytes)) = some (some (.agg #[.int .i64 0, .slice none 0 0]), 2, 32) := by kernel_rfl
def PastsPost (w : World) (ls : List (List UInt8)) (e : Ending) (w' : World) : Prop :=
  ∃ A n c ok, e = .returned (.tuple #[.slice A n c, .bool ok]) ∧ Below w.heap.size w w' ∧ (ok = true ↔ (∀ l ∈ ls, Pl.readTx l ≠ none) ∧ ls.length ≠ 0 ∧ ls.length % 3 = 0) ∧ (ok = true → n = ls.length ∧ n ≤ c ∧ TxsAt w' A (txsOf ls))
theorem txsOf_succ {ls : List (List UInt8)} {k : Nat} {l : List UInt8} {t : Pl.Txn} (hl : ls[k]? = some l) (ht : Pl.readTx l = some t) : txsOf (ls.take (k + 1)) = txsOf (ls.take k) ++ [t] := by
  unfold txsOf
  rw [List.take_add_one, hl, List.map_append]
  simp [ht]
theorem txsOf_len (ls : List (List UInt8)) : (txsOf ls).length = ls.length := by simp [txsOf]
set_option maxHeartbeats 2000000 in
set_option maxRecDepth 100000 in
theorem pastsR_any (n cap : Nat) (A : Option Addr) (ls : List (List UInt8)) (w : World) (hS : StrSrc w A ls) (hn : ls.length = n) (hm : n ≤ 1048576) :
    Calls Tryz.prog 10 #[.slice A n cap] w (PastsPost w ls) := by
  obtain ⟨j0, hj0, hy0, hy1, hy2⟩ := info_parts Tryz.infoTxR
  have HI := Lib.hid (And.intro hj0 (And.intro hy0 (And.intro hy1 hy2)))
  have HS := Lib.hid hS
  have HN := Lib.hid hn
  clear hS hn hj0 hy0 hy1 hy2
  go_enter Tryz.func10, Tryz.ntmps10
  go_wp2_with fail
  go_loopw [4, 5] (fun u i wr => ∃ k : Nat, k ≤ n ∧ i = .int .i64 (k : Int) ∧ Hid (TxL wr w.heap.size u (txsOf (ls.take k))) ∧ Hid (∀ l ∈ ls.take k, Pl.readTx l ≠ none) ∧ Hid (Below w.heap.size w wr)) (fun _ i _ => n - (intOf i).toNat)
  case atStart => exact ⟨0, Nat.zero_le _, rfl, OL.nil _ _, (fun l hl => by rw [List.take_zero] at hl; cases hl), Below.refl _ _⟩
  case round =>
    obtain ⟨k, hk, rfl, HO, HR, HB⟩ := hrel
    by_cases hkn : k < n
    · have q1 : (k : Int) < (n : Int) := by omega
      have q2 : (0 : Int) ≤ (k : Int) := by omega
      obtain ⟨l, hl⟩ : ∃ l, ls[k]? = some l := ⟨_, List.getElem?_eq_getElem (by rw [HN.out]; exact hkn)⟩
      have hat : (ls.map fun l => Value.string (tstr l))[k]? = some (.string (tstr l)) := by rw [List.getElem?_map, hl]; rfl
      obtain ⟨b, off, rfl, g0⟩ := (HS.out.below HB.out).1.at_ _ _ hat
      have HRD := Lib.hid (readR_any l wr (HS.out.2 l (List.mem_of_getElem? hl)))
      have HL := Lib.hid hl
      clear hl hat
      go_wp2_with fail
      refine HRD.out.mono ?_
      rintro e w2 ⟨T, A', n', c', ok, rfl, hb2, hok, htx⟩
      have hb2' := hb2
      obtain ⟨w3, hw3⟩ : ∃ W, w2.alloc (.cells #[.int .i64 T, .slice A' n' c'] 90) = W := ⟨_, rfl⟩
      have hb3 : Below w2.heap.size w2 w3 := by rw [← hw3]; exact below_alloc _ _
      have BX : Blk w3 w2.heap.size 90 [.int .i64 T, .slice A' n' c'] := by rw [← hw3]; exact Blk.new w2 90 _
      have B3 := Lib.hid (HB.out.trans ((hb2.trans (hb3.mono hb2.size)).mono HB.out.size))
      cases ok with
      | false =>
        have HNO : Hid (Pl.readTx l = none) := by
          cases h : Pl.readTx l with
          | none => rfl
          | some t => rw [h] at hok; cases hok
        obtain ⟨n0, n1, m0, m1⟩ := facts2 BX
        clear hb2 hok htx hb2' hb3 BX HO
        go_wp2_with fail
        go_ret2
        exact ⟨none, 0, 0, false, rfl, B3.out, ⟨fun e => (by cases e), fun h => absurd HNO.out (h.1 l (List.mem_of_getElem? HL.out))⟩, fun e => (by cases e)⟩
      | true =>
        obtain ⟨t, ht⟩ := Option.isSome_iff_exists.1 hok.symm
        have hR2 := htx t ht
        have HT := Lib.hid ht
        have O3 := (HO.out.below TxR.fr hb2).below TxR.fr hb3
        obtain ⟨n0, n1, m0, m1⟩ := facts2 BX
        obtain ⟨W3, hW3⟩ : ∃ W, w3.alloc (.cells #[.int .i64 T, .slice A' n' c'] 90) = W := ⟨_, rfl⟩
        have hb4 : Below w3.heap.size w3 W3 := by rw [← hW3]; exact below_alloc _ _
        have S4 : Hid (Src W3 (some ⟨w3.heap.size, 0, none⟩) [.int .i64 T, .slice A' n' c']) := Src.of_blk (t := 90) (by rw [← hW3]; exact Blk.new w3 90 _)
        have O4 := Lib.hid (O3.below TxR.fr hb4)
        have B4 := Lib.hid (B3.out.trans (hb4.mono B3.out.size))
        have HLN : Hid ((txsOf (ls.take k)).length ≤ 4294967296) := by rw [Hid, txsOf_len, List.length_take]; omega
        have R4 : Hid (TxR W3 (fun b => w.heap.size ≤ b ∧ b < W3.heap.size ∧ u4.ownBlock ≠ some b) [.int .i64 T, .slice A' n' c'] t) := by
          have h1 := (hR2.only (Only.of_below hb3 (fun _ => False)) (fun _ _ h => h)).only (Only.of_below hb4 (fun _ => False)) (fun _ _ h => h)
          have s1 := HB.out.size
          have s2 := hb2.size
          have s3 := hb3.size
          have s4 := hb4.size
          exact h1.mono fun b hb => ⟨by omega, by omega, fun e => by have := (HO.out.lt b e).2; omega⟩
        clear hb2 hok htx hb2' hb3 BX hb4 O3 hR2 ht
        go_wp2_with (first
          | (at_builtin
             refine wpList_ol (v := u4) TxR.fr rfl (.tmp 24) (.tmp 26) 32 rfl Tryz.underlying32 HI.out.1 HI.out.2.1 HI.out.2.2.1 HI.out.2.2.2 rfl (by decide) rfl O4.out (some ⟨w3.heap.size, 0, none⟩) 1 [.int .i64 T, .slice A' n' c'] t rfl rfl S4.out (by simp; exact ⟨rfl, rfl⟩) R4.out HLN.out (by decide) B4.out.size ?_
             intro v5 w5 o5 m5
             have O5 : Hid (TxL w5 w.heap.size v5 (txsOf (ls.take (k + 1)))) := by rw [txsOf_succ HL.out HT.out]; exact o5
             have B5 : Hid (Below w.heap.size w w5) := B4.out.trans (m5.only.toBelow B4.out.size (fun b hb e => by have := (O4.out.lt b e).1; omega))
             clear o5 m5)
          | fail)
        refine ⟨⟨k + 1, by omega, by go_num, O5.out, ?_, B5.out⟩, by simp [intOf]; omega⟩
        intro y hy
        rw [List.take_add_one, HL.out] at hy
        rcases List.mem_append.1 hy with hy | hy
        · exact HR.out y hy
        · simp at hy; subst hy; rw [HT.out]; simp
    · obtain rfl : k = n := by omega
      have hall := HR.out
      have ho := HO.out
      rw [List.take_of_length_le (by rw [HN.out]; exact Nat.le_refl _)] at hall ho
      obtain ⟨A2, c2, cs2, rfl, hc2, hs2, hr2, _⟩ := ho.src TxR.fr
      have HX : Hid (TxsAt wr A2 (txsOf ls)) := ⟨cs2, hs2, hr2.mono fun _ _ _ h => h.mono fun b hb => hb.2⟩
      rw [txsOf_len, HN.out] at hc2 ⊢
      have HALL := Lib.hid hall
      have HC2 := Lib.hid hc2
      clear hall ho hc2 hs2 hr2 HO HR
      by_cases k0 : k = 0
      · have q1 : ¬ (0 : Int) < (k : Int) := by omega
        have d1 := decide_eq_false q1
        go_wp2_with fail
        go_ret2
        exact ⟨_, _, _, false, rfl, HB.out, ⟨fun e => (by cases e), fun h => absurd (HN.out.trans k0) h.2.1⟩, fun e => (by cases e)⟩
      · have q1 : (0 : Int) < (k : Int) := by omega
        have d1 := decide_eq_true q1
        by_cases k3 : k % 3 = 0
        · have q3 : ((k : Int) % 3 == 0) = true := by simp; omega
          have q4 : ((k : Int).tmod 3 == 0) = true := by rw [Int.tmod_eq_emod_of_nonneg (by omega)]; exact q3
          go_wp2_with fail
          go_ret2
          exact ⟨_, _, _, true, rfl, HB.out, ⟨fun _ => ⟨HALL.out, by rw [HN.out]; exact k0, by rw [HN.out]; exact k3⟩, fun _ => rfl⟩, fun _ => ⟨HN.out.symm, HC2.out, HX.out⟩⟩
        · have q3 : ((k : Int) % 3 == 0) = false := by simp; omega
          have q4 : ((k : Int).tmod 3 == 0) = false := by rw [Int.tmod_eq_emod_of_nonneg (by omega)]; exact q3
          go_wp2_with fail
          go_ret2
          exact ⟨_, _, _, false, rfl, HB.out, ⟨fun e => (by cases e), fun h => absurd h.2.2 (by rw [HN.out]; exact k3)⟩, fun e => (by cases e)⟩
end Go.Proofs.YtljmklohgpaopaaGreatDoor

namespace Go.Proofs.YtljmklohgpaopaaGreatDoor
open Go.RowKit

set_option maxHeartbeats 4000000 in
set_option maxRecDepth 100000 in
theorem summedR_any (n cap : Nat) (A : Option Addr) (ts : List Pl.Txn) (x : List UInt8) (w : World) (hT : TxsAt w A ts) (hn : ts.length = n) (hm : n ≤ 1048576) (hok : ∀ t ∈ ts, Pl.TxOk t) (h3 : n % 3 = 0) (hS : Pl.Summed ts (n / 3) x) :
    Calls Tryz.prog 15 #[.slice A n cap, .string (tstr x)] w fun e w' => e = .returned (.bool true) ∧ Below w.heap.size w w' := by
  have HT := Lib.hid hT
  have HN := Lib.hid hn
  have HOK := Lib.hid hok
  have HS := Lib.hid hS
  obtain ⟨N, hN⟩ : ∃ N, n / 3 = N := ⟨_, rfl⟩
  have hN3 : n = 3 * N := by omega
  have HHD := Lib.hid (headersR_any n cap A ts w hT hn hm hok)
  rw [hN] at HS HHD
  have HN3 := Lib.hid hN3
  have hNl : N ≤ 1048576 := by omega
  clear hT hn hok hS hN h3 hN3
  go_enter Tryz.func15, Tryz.ntmps15
  go_wp2_with fail
  refine HHD.out.mono ?_
  rintro e w1 ⟨v, rfl, hsl, hb1⟩
  obtain ⟨A1, c1, rfl, _, hs1, _⟩ := hsl.strs
  rw [hdrs_len]
  have HS1 := Lib.hid hs1
  have HB1 := Lib.hid hb1
  clear hsl hs1 hb1 HHD
  go_wp2_with fail
  go_loopw [6] (fun i wr => ∃ k : Nat, k ≤ N ∧ i = .int .i64 (k : Int) ∧ Hid (Below w1.heap.size w1 wr) ∧ Hid (∀ k', k' < k → x ≠ Pl.hdr ts k' ∧ x ∉ Pl.ttexts (Pl.ents ts k'))) (fun i _ => N - (intOf i).toNat)
  case atStart => exact ⟨0, Nat.zero_le _, rfl, Below.refl _ _, fun k' h => absurd h (Nat.not_lt_zero _)⟩
  case round =>
    obtain ⟨k, hk, rfl, HB, HNO⟩ := hrel
    by_cases hkn : k < N
    · have q1 : (k : Int) < (N : Int) := by omega
      have q2 : (0 : Int) ≤ (k : Int) := by omega
      obtain ⟨h0, hh0⟩ : ∃ h, Pl.hdr ts k = h := ⟨_, rfl⟩
      have hat : ((hdrs ts N).map fun l => Value.string (tstr l))[k]? = some (.string (tstr h0)) := by rw [List.getElem?_map, hdrs_at _ _ _ hkn, hh0]; rfl
      obtain ⟨b1, off1, rfl, g0⟩ := (HS1.out.below HB.out).1.at_ _ _ hat
      have HH0 := Lib.hid hh0
      clear hat hh0
      by_cases hx0 : h0 = x
      · subst hx0
        have hbe : ((tstr h0).toList == (tstr h0).toList) = true := by rw [tstr_beq]; exact beq_iff_eq.2 rfl
        go_wp2_with fail
        go_ret
        exact ⟨rfl, HB1.out.trans (HB.out.mono HB1.out.size)⟩
      · have hbe : ((tstr h0).toList == (tstr x).toList) = false := by rw [tstr_beq]; exact beq_eq_false_iff_ne.2 hx0
        have HX0 := Lib.hid hx0
        have HES := Lib.hid (entriesR_any k ((k : Int) + 1) (by omega) n cap A ts wr (HT.out.below (HB1.out.trans (HB.out.mono HB1.out.size))) HN.out hm (by have := HN3.out; omega) HOK.out)
        clear hx0
        go_wp2_with fail
        refine HES.out.mono ?_
        rintro e w2 ⟨v, rfl, hsl, hb2⟩
        obtain ⟨A2, c2, rfl, hc2, hs2, _⟩ := hsl.strs
        rw [Pl.ents_length] at hc2 ⊢
        have HTX := Lib.hid (textsR_any 4 3 (Pl.ents ts k) A2 c2 w2 (by omega) rfl hs2 hc2 (by omega) (fun l hl => by
          obtain ⟨d, _, rfl⟩ := List.mem_map.1 (by rw [← entsTo_three] at hl; exact hl)
          rw [entryOf_len]; omega))
        have B2 := Lib.hid ((HB1.out.trans (HB.out.mono HB1.out.size)).trans (hb2.mono (HB1.out.trans (HB.out.mono HB1.out.size)).size))
        have B2' := Lib.hid (HB.out.trans (hb2.mono HB.out.size))
        clear hsl hs2 hb2 HES hc2
        go_wp2_with fail
        refine HTX.out.mono ?_
        rintro e w3 ⟨v, rfl, hsl, hb3⟩
        obtain ⟨A3, c3, rfl, _, hs3, _⟩ := hsl.strs
        have B3 := Lib.hid (B2.out.trans (hb3.mono B2.out.size))
        have B3' := Lib.hid (B2'.out.trans (hb3.mono B2'.out.size))
        obtain ⟨lst, hlst⟩ : ∃ l, Pl.ttexts (Pl.ents ts k) = l := ⟨_, rfl⟩
        rw [hlst] at hs3 ⊢
        obtain ⟨L, hL⟩ : ∃ n, lst.length = n := ⟨_, rfl⟩
        have hLb : L ≤ 1048576 := by
          rw [← hL, ← hlst, Pl.ttexts_length 3 _ rfl (by omega)]; omega
        rw [hL]
        have HL := Lib.hid hL
        have HLS := Lib.hid hlst
        have HS3 := Lib.hid hs3
        clear hsl hs3 hb3 hL hlst HTX
        go_wp2_with fail
        go_loopw [8] (fun i wr => ∃ m : Nat, m ≤ L ∧ i = .int .i64 (m : Int) ∧ Hid (Below w3.heap.size w3 wr) ∧ Hid (∀ m', m' < m → lst[m']? ≠ some x)) (fun i _ => L - (intOf i).toNat)
        case atStart => exact ⟨0, Nat.zero_le _, rfl, Below.refl _ _, fun m' h => absurd h (Nat.not_lt_zero _)⟩
        case round =>
          obtain ⟨m, hm, rfl, HBI, HNE⟩ := hrel
          by_cases hml : m < L
          · have r1 : (m : Int) < (L : Int) := by omega
            have r2 : (0 : Int) ≤ (m : Int) := by omega
            obtain ⟨y, hy⟩ : ∃ y, lst[m]? = some y := ⟨_, List.getElem?_eq_getElem (by rw [HL.out]; exact hml)⟩
            have hat : (lst.map fun l => Value.string (tstr l))[m]? = some (.string (tstr y)) := by rw [List.getElem?_map, hy]; rfl
            obtain ⟨b, off, rfl, g0⟩ := (HS3.out.below HBI.out).1.at_ _ _ hat
            have HY := Lib.hid hy
            clear hat hy
            by_cases hyx : y = x
            · subst hyx
              have hbe : ((tstr y).toList == (tstr y).toList) = true := by rw [tstr_beq]; exact beq_iff_eq.2 rfl
              go_wp2_with fail
              go_ret
              exact ⟨rfl, B3.out.trans (HBI.out.mono B3.out.size)⟩
            · have hbe : ((tstr y).toList == (tstr x).toList) = false := by rw [tstr_beq]; exact beq_eq_false_iff_ne.2 hyx
              have HYX := Lib.hid hyx
              clear hyx
              go_wp2_with fail
              refine ⟨⟨m + 1, by omega, by go_num, HBI.out, fun m' hm' => ?_⟩, by simp [intOf]; omega⟩
              by_cases h9 : m' < m
              · exact HNE.out m' h9
              · obtain rfl : m' = m := by omega
                rw [HY.out]
                exact fun e => HYX.out (Option.some.inj e)
          · obtain rfl : m = L := by omega
            have r1 : ¬ (m : Int) < (m : Int) := by omega
            have HNI : Hid (x ∉ lst) := fun hx => by
              obtain ⟨j, hj, hjx⟩ := List.getElem_of_mem hx
              have hjm : j < m := by rw [← HL.out]; exact hj
              exact HNE.out j hjm (by rw [List.getElem?_eq_getElem hj, hjx])
            go_wp2_with fail
            refine ⟨⟨k + 1, by omega, by go_num, B3'.out.trans (HBI.out.mono B3'.out.size), fun k' hk' => ?_⟩, by simp [intOf]; omega⟩
            by_cases h9 : k' < k
            · exact HNO.out k' h9
            · obtain rfl : k' = k := by omega
              exact ⟨by rw [HH0.out]; exact fun e => HX0.out e.symm, by rw [HLS.out]; exact HNI.out⟩
    · obtain rfl : k = N := by omega
      have q1 : ¬ (k : Int) < (k : Int) := by omega
      have HS2 : Hid (∃ k', k' < n ∧ x ∈ Pl.ttexts (Pl.txTexts (Pl.txAt ts k'))) := by
        rcases HS.out with ⟨i, hi, hx | hx⟩ | ⟨k', hk', hx⟩
        · exact absurd hx (HNO.out i hi).1
        · exact absurd hx (HNO.out i hi).2
        · exact ⟨k', by have := HN3.out; omega, hx⟩
      have HBW := Lib.hid (HB1.out.trans (HB.out.mono HB1.out.size))
      obtain ⟨w5, hw5⟩ : ∃ w', wr = w' := ⟨_, rfl⟩
      subst hw5
      go_wp2_with fail
      go_loopw [9] (fun i wr => ∃ k : Nat, k ≤ n ∧ i = .int .i64 (k : Int) ∧ Hid (Below w.heap.size w wr) ∧ Hid (∀ k', k' < k → x ∉ Pl.ttexts (Pl.txTexts (Pl.txAt ts k')))) (fun i _ => n - (intOf i).toNat)
      case atStart => exact ⟨0, Nat.zero_le _, rfl, HBW.out, fun k' h => absurd h (Nat.not_lt_zero _)⟩
      case round =>
        obtain ⟨j, hj, rfl, HBJ, HNJ⟩ := hrel
        by_cases hjn : j < n
        · have p1 : (j : Int) < (n : Int) := by omega
          have p2 : (0 : Int) ≤ (j : Int) := by omega
          obtain ⟨t, ht⟩ : ∃ t, ts[j]? = some t := ⟨_, List.getElem?_eq_getElem (by rw [HN.out]; exact hjn)⟩
          obtain ⟨b6, off6, T, A', n', c', rfl, g0, g1, hR⟩ := (HT.out.below HBJ.out).at_ ht
          have htok := HOK.out t (List.mem_of_getElem? ht)
          have HTE := Lib.hid (refTexts_any _ _ t wr hR (fun _ h => h) htok.2.2 (by have := htok.2.1.2; omega))
          have HTJ : Hid (Pl.txAt ts j = t) := txAt_at ht
          have HTOK := Lib.hid htok
          clear hR htok ht
          go_wp2_with fail
          refine HTE.out.mono ?_
          rintro e w2 ⟨v, rfl, hsl, hb2⟩
          obtain ⟨A2, c2, rfl, hc2, hs2, _⟩ := hsl.strs
          obtain ⟨q, hq⟩ : ∃ q, (t.ops.map Pl.encOp).length = q := ⟨_, rfl⟩
          have hql : 1 ≤ q ∧ q ≤ 16 := by rw [← hq, List.length_map]; exact HTOK.out.2.1
          rw [hq] at hc2 ⊢
          have HTX := Lib.hid (textsR_any 20 q (t.ops.map Pl.encOp) A2 c2 w2 (by omega) hq hs2 hc2 (by omega) (fun l hl => by
            obtain ⟨o, ho, rfl⟩ := List.mem_map.1 hl
            have := encOp_len (HTOK.out.2.2 o ho)
            omega))
          have B2 := Lib.hid (HBJ.out.trans (hb2.mono HBJ.out.size))
          have HQ := Lib.hid hq
          clear hsl hs2 hb2 HTE hc2 hq
          go_wp2_with fail
          refine HTX.out.mono ?_
          rintro e w3 ⟨v, rfl, hsl, hb3⟩
          obtain ⟨A3, c3, rfl, _, hs3, _⟩ := hsl.strs
          have B3 := Lib.hid (B2.out.trans (hb3.mono B2.out.size))
          obtain ⟨lst, hlst⟩ : ∃ l, Pl.ttexts (t.ops.map Pl.encOp) = l := ⟨_, rfl⟩
          rw [hlst] at hs3 ⊢
          obtain ⟨L, hL⟩ : ∃ n, lst.length = n := ⟨_, rfl⟩
          have hLb : L ≤ 1048576 := by
            rw [← hL, ← hlst, Pl.ttexts_length q _ HQ.out (by omega)]; omega
          rw [hL]
          have HL := Lib.hid hL
          have HLS := Lib.hid hlst
          have HS3 := Lib.hid hs3
          clear hsl hs3 hb3 hL hlst HTX
          go_wp2_with fail
          go_loopw [11] (fun i wr => ∃ m : Nat, m ≤ L ∧ i = .int .i64 (m : Int) ∧ Hid (Below w3.heap.size w3 wr) ∧ Hid (∀ m', m' < m → lst[m']? ≠ some x)) (fun i _ => L - (intOf i).toNat)
          case atStart => exact ⟨0, Nat.zero_le _, rfl, Below.refl _ _, fun m' h => absurd h (Nat.not_lt_zero _)⟩
          case round =>
            obtain ⟨m, hm, rfl, HBI, HNE⟩ := hrel
            by_cases hml : m < L
            · have r1 : (m : Int) < (L : Int) := by omega
              have r2 : (0 : Int) ≤ (m : Int) := by omega
              obtain ⟨y, hy⟩ : ∃ y, lst[m]? = some y := ⟨_, List.getElem?_eq_getElem (by rw [HL.out]; exact hml)⟩
              have hat : (lst.map fun l => Value.string (tstr l))[m]? = some (.string (tstr y)) := by rw [List.getElem?_map, hy]; rfl
              obtain ⟨b, off, rfl, g0⟩ := (HS3.out.below HBI.out).1.at_ _ _ hat
              have HY := Lib.hid hy
              clear hat hy
              by_cases hyx : y = x
              · subst hyx
                have hbe : ((tstr y).toList == (tstr y).toList) = true := by rw [tstr_beq]; exact beq_iff_eq.2 rfl
                go_wp2_with fail
                go_ret
                exact ⟨rfl, B3.out.trans (HBI.out.mono B3.out.size)⟩
              · have hbe : ((tstr y).toList == (tstr x).toList) = false := by rw [tstr_beq]; exact beq_eq_false_iff_ne.2 hyx
                have HYX := Lib.hid hyx
                clear hyx
                go_wp2_with fail
                refine ⟨⟨m + 1, by omega, by go_num, HBI.out, fun m' hm' => ?_⟩, by simp [intOf]; omega⟩
                by_cases h9 : m' < m
                · exact HNE.out m' h9
                · obtain rfl : m' = m := by omega
                  rw [HY.out]
                  exact fun e => HYX.out (Option.some.inj e)
            · obtain rfl : m = L := by omega
              have r1 : ¬ (m : Int) < (m : Int) := by omega
              have HNI : Hid (x ∉ lst) := fun hx => by
                obtain ⟨j, hj, hjx⟩ := List.getElem_of_mem hx
                have hjm : j < m := by rw [← HL.out]; exact hj
                exact HNE.out j hjm (by rw [List.getElem?_eq_getElem hj, hjx])
              go_wp2_with fail
              refine ⟨⟨j + 1, by omega, by go_num, B3.out.trans (HBI.out.mono B3.out.size), fun k' hk' => ?_⟩, by simp [intOf]; omega⟩
              by_cases h9 : k' < j
              · exact HNJ.out k' h9
              · obtain rfl : k' = j := by omega
                rw [HTJ.out]
                have := HNI.out
                rw [← HLS.out] at this
                exact this
        · obtain ⟨k', hk', hx⟩ := HS2.out
          exact absurd hx (HNJ.out k' (by omega))
end Go.Proofs.YtljmklohgpaopaaGreatDoor
