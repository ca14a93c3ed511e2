/- The document's op: the walk. The document's: is a value right? are columns right? -/
import Derived.Test.YtljmklohgpaopaaGreatDoorMgClashes14
import Derived.Deep.CutBlock
import Derived.Deep.CutRange
set_option linter.unusedVariables false
set_option linter.unusedSimpArgs false

namespace Go.Proofs.YtljmklohgpaopaaGreatDoor
open Go.RowKit

theorem results_opR {fn : Func} {t : Tmp} {tmps : Array Value} {w : World} {g : Nat} {a b c d : Value} (h : fn.results = #[.cell t 151]) (ht : tmps.getD t undef = .pointer (some ⟨g, 0, none⟩)) (hB : Blk w g 151 [a, b, c, d]) :
    (results fn tmps).run Tryz.prog w = .ok (.agg #[a, b, c, d]) w := by
  have c0 := hB.cell 0
  have c1 := hB.cell 1
  have c2 := hB.cell 2
  have c3 := hB.cell 3
  simp only [List.getElem?_cons_succ, List.getElem?_cons_zero] at c0 c1 c2 c3
  simp only [Array.getD_eq_getD_getElem?] at ht
  simp [results, h, ht, go_sem, c0, c1, c2, c3, asAddr]
theorem encOp_parts {o : Pl.Opn} (h : Pl.OpOk o) : Pl.encOp o = Pl.be 1 o.kind ++ (Pl.short o.table ++ opT o) ∧ o.kind < 256 ∧ o.table.length < 256 := by
  obtain ⟨h1, h2, _⟩ := OpOk.b h
  exact ⟨by rw [be_one]; rfl, by omega, by omega⟩
set_option maxHeartbeats 4000000 in
set_option maxRecDepth 100000 in
theorem opR_any (g : Nat) (l : List UInt8) (bad : Bool) (w : World) (h : Cur w g l bad) :
    Calls Tryz.prog 70 #[.pointer (some ⟨g, 0, none⟩)] w (OpP g l bad w) := by
  obtain ⟨i0, hi0, hz0, hz1, hz2⟩ := info_parts Tryz.infoColumn
  have HI := Lib.hid (And.intro hi0 (And.intro hz0 (And.intro hz1 hz2)))
  obtain ⟨j0, hj0, hy0, hy1, hy2⟩ := info_parts Tryz.infoValue
  have HJ := Lib.hid (And.intro hj0 (And.intro hy0 (And.intro hy1 hy2)))
  clear hi0 hz0 hz1 hz2 hj0 hy0 hy1 hy2
  have hgl : g < w.heap.size := h.lt
  obtain ⟨b2, hb2⟩ : ∃ b2, w.heap.size = b2 := ⟨_, rfl⟩
  obtain ⟨w0, hw0⟩ : ∃ w0, w.alloc (.cells #[.int .i64 0, .string ⟨#[]⟩, .slice none 0 0, .slice none 0 0] 151) = w0 := ⟨_, rfl⟩
  have hb0 : Below w.heap.size w w0 := by rw [← hw0]; exact below_alloc _ _
  have B0 : Blk w0 b2 151 [.int .i64 0, .string ⟨#[]⟩, .slice none 0 0, .slice none 0 0] := by rw [← hw0, ← hb2]; exact Blk.new w 151 _
  have HNUM := Lib.hid (numR_any g 1 1 rfl l bad w0 (h.below hb0) (by omega))
  have HB0 := Lib.hid B0
  have HO0 := Lib.hid (Only.of_below hb0 (· = g))
  have hgb : g ≠ b2 := by omega
  clear hb0 B0 h
  go_enter Tryz.func70, Tryz.ntmps70
  go_wp2_with fail
  refine HNUM.out.mono ?_
  rintro e w1 ⟨K, rfl, hK, l1, bad1, hc1, ho1, h1⟩
  have hK : K < 256 := by simpa using hK
  rw [sig_small hK]
  have HO1 := Lib.hid (HO0.out.trans' ho1)
  have HB1 := Lib.hid (ho1.blk HB0.out (Ne.symm hgb))
  have H1 := Lib.hid h1
  obtain ⟨b3, hb3⟩ : ∃ b3, w1.heap.size = b3 := ⟨_, rfl⟩
  obtain ⟨wz, hwz⟩ : ∃ wz, w1.alloc (.cells #[.int .i64 0, .string ⟨#[]⟩, .slice none 0 0, .slice none 0 0] 151) = wz := ⟨_, rfl⟩
  have hbz : Below w1.heap.size w1 wz := by rw [← hwz]; exact below_alloc _ _
  have BZ : Blk wz b3 151 [.int .i64 0, .string ⟨#[]⟩, .slice none 0 0, .slice none 0 0] := by rw [← hwz, ← hb3]; exact Blk.new w1 151 _
  obtain ⟨z0, z1, z2, z3, e0, e1, e2, e3⟩ := facts4 BZ
  obtain ⟨w1a, hw1a⟩ : ∃ w1a, (((wz.setCell ⟨b3, 0, none⟩ (.int .i64 (K : Int))).setCell ⟨b3, 1, none⟩ (.string ⟨#[]⟩)).setCell ⟨b3, 2, none⟩ (.slice none 0 0)).setCell ⟨b3, 3, none⟩ (.slice none 0 0) = w1a := ⟨_, rfl⟩
  have hb1a : Below w1.heap.size w1 w1a := by
    rw [← hw1a]
    have h1 : w1.heap.size ≤ b3 := by omega
    exact (((hbz.setCell (p := ⟨b3, 0, none⟩) h1 _).setCell (p := ⟨b3, 1, none⟩) h1 _).setCell (p := ⟨b3, 2, none⟩) h1 _).setCell (p := ⟨b3, 3, none⟩) h1 _
  have BV : Blk w1a b3 151 [.int .i64 (K : Int), .string ⟨#[]⟩, .slice none 0 0, .slice none 0 0] := by
    rw [← hw1a]
    exact (((BZ.set_ 0 _).set_ 1 _).set_ 2 _).set_ 3 _
  have hs1 : w.heap.size ≤ w1.heap.size := HO1.out.size
  have hlt := HB1.out.lt
  have HA1 : Hid (OAt w g b2 b3 K [] (.slice none 0 0) (.slice none 0 0) w1a) := ⟨by omega, HB1.out.below hb1a HB1.out.lt, BV, HO1.out.below hb1a⟩
  have HSHORT := Lib.hid (shortR_any g l1 bad1 w1a (hc1.below hb1a))
  clear hc1 ho1 h1 hb1a BV hbz BZ HO1 HB1 HO0 HB0 hlt
  go_wp2_with fail
  refine HSHORT.out.mono ?_
  rintro e w2 ⟨nm, rfl, hnl, l2, bad2, hc2, ho2, h2⟩
  have ha2 := HA1.out.read ho2
  obtain ⟨c0, c1, c2, c3, f0, f1, f2, f3⟩ := facts4 ha2.r3
  obtain ⟨w3, hw3⟩ : ∃ w3, w2.setCell ⟨b3, 1, none⟩ (.string (tstr nm)) = w3 := ⟨_, rfl⟩
  have ha3 : OAt w g b2 b3 K nm (.slice none 0 0) (.slice none 0 0) w3 := by
    rw [← hw3]
    exact ⟨ha2.low, ha2.r2.far (p := ⟨b3, 1, none⟩) (by have := ha2.low; dsimp only; omega) _, ha2.r3.set_ 1 _, ha2.only.setCell (p := ⟨b3, 1, none⟩) (.inr (by have := ha2.low; dsimp only; omega)) _⟩
  have hc3 : Cur w3 g l2 bad2 := by
    rw [← hw3]
    exact ⟨hc2.1, hc2.2.far (p := ⟨b3, 1, none⟩) (by have := ha2.low; dsimp only; omega) _⟩
  have HA3 := Lib.hid ha3
  have HC3 := Lib.hid hc3
  have H2 := Lib.hid h2
  have HNL := Lib.hid hnl
  have HLOW := Lib.hid ha3.low
  obtain ⟨d0, d1, d2, d3, k0, k1, k2, k3⟩ := facts4 ha3.r3
  have hb3lt : b3 + 1 ≤ w3.heap.size := ha3.r3.lt
  clear ha2 hc2 ho2 h2 hnl ha3 hc3
  go_upto_block 0 with fail
  go_cut [] from 4 (fun W => Hid (FinAt w g b2 b3 K nm l2 bad2 W))
  case first =>
    by_cases t1 : K = 1
    · have q1 : (((K : Nat) : Int) == 1) = true := by rw [t1]; rfl
      clear c0 c1 c2 c3 f0 f1 f2 f3
      have HNM := Lib.hid (numR_any g 1 1 rfl l2 bad2 w3 HC3.out (by omega))
      have HT := Lib.hid t1
      clear t1
      go_wp2_with fail
      refine HNM.out.mono ?_
      rintro e w4 ⟨n, rfl, hn, l3, bad3, hc4, ho4, h4⟩
      have hn : n < 256 := by simpa using hn
      rw [sig_small hn]
      have HA4 := Lib.hid (HA3.out.read ho4)
      have HC4 := Lib.hid hc4
      have H4 := Lib.hid h4
      have hs4 := ho4.size
      clear hc4 ho4 h4 d0 d1 d2 d3 k0 k1 k2 k3
      go_wp2_with fail
      go_loopw [5] (fun i wr => ∃ (k : Nat) (cs : List Pl.Cl) (va : Value) (lk : List UInt8) (bk : Bool), k ≤ n ∧ i = .int .i64 (k : Int) ∧ Hid (cs.length = k) ∧ Hid (OAt w g b2 b3 K nm va (.slice none 0 0) wr) ∧ Hid (CLL wr (b3 + 1) va cs) ∧ Hid (Cur wr g lk bk) ∧ Hid (MAt okC Pl.encC n l3 bad3 cs lk bk)) (fun i _ => n - (intOf i).toNat)
      case atStart => exact ⟨0, [], _, l3, bad3, Nat.zero_le _, rfl, rfl, HA4.out, OL.nil _ _, HC4.out, MAt.start _ _ _ _ _⟩
      case round =>
        obtain ⟨k, cs, va, lk, bk, hk, rfl, HL, HA, HCL, HC, HM⟩ := hrel
        have y1 := HC.out.2.cell 1
        simp only [List.getElem?_cons_succ, List.getElem?_cons_zero] at y1
        by_cases hkn : k < n
        · have q2 : (k : Int) < (n : Int) := by omega
          cases bk with
          | false =>
            have HSH := Lib.hid (shortR_any g lk false wr HC.out)
            go_wp2_with fail
            refine HSH.out.mono ?_
            rintro e w5 ⟨s, rfl, hs, l5, bad5, hc5, ho5, h5⟩
            have HA5 := Lib.hid (HA.out.read ho5)
            have HCL5 := Lib.hid (HCL.out.only ClR.fr ho5 (fun x hx _ e => by have := HLOW.out; omega))
            have HN5 := Lib.hid (numR_any g 1 1 rfl l5 bad5 w5 hc5 (by omega))
            have H5 := Lib.hid h5
            have HS := Lib.hid hs
            clear hc5 ho5 h5 hs HSH y1
            go_wp2_with fail
            refine HN5.out.mono ?_
            rintro e w6 ⟨ty, rfl, hty, l6, bad6, hc6, ho6, h6⟩
            have hty : ty < 256 := by simpa using hty
            rw [sig_small hty]
            have HA6 := Lib.hid (HA5.out.read ho6)
            have HCL6 := Lib.hid (HCL5.out.only ClR.fr ho6 (fun x hx _ e => by have := HLOW.out; omega))
            obtain ⟨d0, d1, d2, d3, k0, k1, k2, k3⟩ := facts4 HA6.out.r3
            obtain ⟨W6, hW6⟩ : ∃ W, w6.alloc (.cells #[.string (tstr s), .int .i64 (ty : Int)] 224) = W := ⟨_, rfl⟩
            have hb6 : Below w6.heap.size w6 W6 := by rw [← hW6]; exact below_alloc _ _
            have S6 : Hid (Src W6 (some ⟨w6.heap.size, 0, none⟩) (clc ⟨s, ty⟩)) := Src.of_blk (t := 224) (by rw [← hW6]; exact Blk.new w6 224 _)
            have HA7 := Lib.hid (HA6.out.below hb6)
            have HCL7 := Lib.hid (HCL6.out.below ClR.fr hb6)
            have HC7 := Lib.hid (hc6.below hb6)
            have H6 := Lib.hid h6
            have HLN : Hid (cs.length ≤ 4294967296) := by rw [Hid, HL.out]; omega
            have hb7 : b3 + 1 ≤ W6.heap.size := HA7.out.r3.lt
            have R7 : Hid (ClR W6 (fun b => b3 + 1 ≤ b ∧ b < W6.heap.size ∧ va.ownBlock ≠ some b) (clc ⟨s, ty⟩) ⟨s, ty⟩) := ⟨rfl, by have := HS.out; dsimp only; omega, hty⟩
            clear hc6 ho6 h6 hb6
            go_wp2_with (first
              | (at_builtin
                 refine wpList_ol (v := va) ClR.fr rfl (.tmp 41) (.tmp 45) 149 rfl Tryz.underlying149 HI.out.1 HI.out.2.1 HI.out.2.2.1 HI.out.2.2.2 rfl (by decide) rfl HCL7.out (some ⟨w6.heap.size, 0, none⟩) 1 (clc ⟨s, ty⟩) ⟨s, ty⟩ rfl rfl S6.out (by simp [clc]; exact ⟨rfl, rfl⟩) R7.out HLN.out (by decide) hb7 ?_
                 intro v8 w8 o8 m8
                 obtain ⟨A8, n8, c8, rfl⟩ : ∃ A n c, v8 = .slice A n c := by obtain ⟨A, cap, _, h, _⟩ := o8.src ClR.fr; exact ⟨_, _, _, h⟩
                 have HO8 := Lib.hid o8
                 have hm8 := m8.only
                 have HA8 := Lib.hid (HA7.out.moves m8 (fun k hk => by have := (HCL7.out.lt k hk).1; omega))
                 have HC8 := Lib.hid (HC7.out.only hm8 (fun e => by have := (HCL7.out.lt g e).1; have := HLOW.out; omega))
                 obtain ⟨z0, z1, z2, z3, x0, x1, x2, x3⟩ := facts4 HA8.out.r3
                 clear o8 m8 hm8)
              | fail)
            refine ⟨⟨k + 1, cs ++ [⟨s, ty⟩], _, l6, bad6, by omega, by go_num, ?_, HA8.out.set2 _, ?_, ?_, ?_⟩, by simp [intOf]; omega⟩
            · show _ = _
              rw [List.length_append, HL.out]; rfl
            · exact HO8.out.only ClR.fr ((Only.refl (· = b3) w8).setCell (p := ⟨b3, 2, none⟩) (.inl rfl) _) (fun x hx _ e => by omega)
            · exact ⟨HC8.out.1, HC8.out.2.far (p := ⟨b3, 2, none⟩) (by have := HLOW.out; dsimp only; omega) _⟩
            · exact HM.out.step (by have := HL.out; omega) (col_left H5.out H6.out)
          | true =>
            have HF := Lib.hid (FinAt.cols HT.out HA.out HCL.out ⟨by have := HL.out; omega, hn⟩ HC.out (.inr rfl) HM.out H4.out)
            clear HM HCL
            go_wp2_with fail
            go_meet
            exact HF.out
        · have q2 : ¬ (k : Int) < (n : Int) := by omega
          have HF := Lib.hid (FinAt.cols HT.out HA.out HCL.out ⟨by have := HL.out; omega, hn⟩ HC.out (.inl (by have := HL.out; omega)) HM.out H4.out)
          clear HM HCL
          go_wp2_with fail
          go_meet
          exact HF.out
    · by_cases t2 : K = 2
      · have q1 : (((K : Nat) : Int) == 1) = false := beq_eq_false_iff_ne.2 (by omega)
        have q3 : (((K : Nat) : Int) == 2) = true := by rw [t2]; rfl
        have HT : Hid (K = 2 ∨ K = 3) := .inl t2
        have HNM := Lib.hid (numR_any g 1 1 rfl l2 bad2 w3 HC3.out (by omega))
        clear c0 c1 c2 c3 f0 f1 f2 f3
        go_wp2_with fail
        refine HNM.out.mono ?_
        rintro e w4 ⟨n, rfl, hn, l3, bad3, hc4, ho4, h4⟩
        have hn : n < 256 := by simpa using hn
        rw [sig_small hn]
        have HA4 := Lib.hid (HA3.out.read ho4)
        have HC4 := Lib.hid hc4
        have H4 := Lib.hid h4
        have hs4 := ho4.size
        clear hc4 ho4 h4 d0 d1 d2 d3 k0 k1 k2 k3
        go_wp2_with fail
        go_loopw [9] (fun i wr => ∃ (k : Nat) (cs : List Pl.Vl) (va : Value) (lk : List UInt8) (bk : Bool), k ≤ n ∧ i = .int .i64 (k : Int) ∧ Hid (cs.length = k) ∧ Hid (OAt w g b2 b3 K nm (.slice none 0 0) va wr) ∧ Hid (VLL wr (b3 + 1) va cs) ∧ Hid (Cur wr g lk bk) ∧ Hid (MAt Pl.VlOk Pl.encV n l3 bad3 cs lk bk)) (fun i _ => n - (intOf i).toNat)
        case atStart => exact ⟨0, [], _, l3, bad3, Nat.zero_le _, rfl, rfl, HA4.out, OL.nil _ _, HC4.out, MAt.start _ _ _ _ _⟩
        case round =>
          obtain ⟨k, cs, va, lk, bk, hk, rfl, HL, HA, HCL, HC, HM⟩ := hrel
          have y1 := HC.out.2.cell 1
          simp only [List.getElem?_cons_succ, List.getElem?_cons_zero] at y1
          by_cases hkn : k < n
          · have q2 : (k : Int) < (n : Int) := by omega
            cases bk with
            | false =>
              have HSH := Lib.hid (valR_any g lk false wr HC.out)
              go_wp2_with fail
              refine HSH.out.mono ?_
              rintro e w5 ⟨⟨ty, vn, s⟩, rfl, hxb, l6, bad6, hc5, ho5, h5⟩
              unfold vlV
              dsimp only
              have HA5 := Lib.hid (HA.out.read ho5)
              have HCL5 := Lib.hid (HCL.out.only VlR.fr ho5 (fun x hx _ e => by have := HLOW.out; omega))
              have H5 := Lib.hid h5
              have HXB := Lib.hid hxb
              obtain ⟨w6, hw6⟩ : ∃ W, w5.alloc (.cells #[.int .i64 (ty : Nat), .int .i64 (sig vn), .string (tstr s)] 122) = W := ⟨_, rfl⟩
              have hb5 : Below w5.heap.size w5 w6 := by rw [← hw6]; exact below_alloc _ _
              have HA6 := Lib.hid (HA5.out.below hb5)
              have HCL6 := Lib.hid (HCL5.out.below VlR.fr hb5)
              have hc6 := hc5.below hb5
              have BX : Blk w6 w5.heap.size 122 [.int .i64 (ty : Nat), .int .i64 (sig vn), .string (tstr s)] := by rw [← hw6]; exact Blk.new w5 122 _
              obtain ⟨n0, n1, n2, m0, m1, m2⟩ := facts3 BX
              obtain ⟨d0, d1, d2, d3, k0, k1, k2, k3⟩ := facts4 HA6.out.r3
              obtain ⟨W6, hW6⟩ : ∃ W, w6.alloc (.cells #[.int .i64 (ty : Nat), .int .i64 (sig vn), .string (tstr s)] 122) = W := ⟨_, rfl⟩
              have hb6 : Below w6.heap.size w6 W6 := by rw [← hW6]; exact below_alloc _ _
              have S6 : Hid (Src W6 (some ⟨w6.heap.size, 0, none⟩) (vc ⟨ty, vn, s⟩)) := Src.of_blk (t := 122) (by rw [← hW6]; exact Blk.new w6 122 _)
              have HA7 := Lib.hid (HA6.out.below hb6)
              have HCL7 := Lib.hid (HCL6.out.below VlR.fr hb6)
              have HC7 := Lib.hid (hc6.below hb6)
              have HLN : Hid (cs.length ≤ 4294967296) := by rw [Hid, HL.out]; omega
              have hb7 : b3 + 1 ≤ W6.heap.size := HA7.out.r3.lt
              have R7 : Hid (VlR W6 (fun b => b3 + 1 ≤ b ∧ b < W6.heap.size ∧ va.ownBlock ≠ some b) (vc ⟨ty, vn, s⟩) ⟨ty, vn, s⟩) := ⟨rfl, HXB.out⟩
              clear hc5 hc6 ho5 h5 hb5 hb6 hxb BX HSH y1
              go_wp2_with (first
                | (at_builtin
                   refine wpList_ol (v := va) VlR.fr rfl (.tmp 68) (.tmp 70) 119 rfl Tryz.underlying119 HJ.out.1 HJ.out.2.1 HJ.out.2.2.1 HJ.out.2.2.2 rfl (by decide) rfl HCL7.out (some ⟨w6.heap.size, 0, none⟩) 1 (vc ⟨ty, vn, s⟩) ⟨ty, vn, s⟩ rfl rfl S6.out (by simp [vc]; exact ⟨rfl, rfl, rfl⟩) R7.out HLN.out (by decide) hb7 ?_
                   intro v8 w8 o8 m8
                   obtain ⟨A8, n8, c8, rfl⟩ : ∃ A n c, v8 = .slice A n c := by obtain ⟨A, cap, _, h, _⟩ := o8.src VlR.fr; exact ⟨_, _, _, h⟩
                   have HO8 := Lib.hid o8
                   have hm8 := m8.only
                   have HA8 := Lib.hid (HA7.out.moves m8 (fun k hk => by have := (HCL7.out.lt k hk).1; omega))
                   have HC8 := Lib.hid (HC7.out.only hm8 (fun e => by have := (HCL7.out.lt g e).1; have := HLOW.out; omega))
                   obtain ⟨z0, z1, z2, z3, x0, x1, x2, x3⟩ := facts4 HA8.out.r3
                   clear o8 m8 hm8)
                | fail)
              refine ⟨⟨k + 1, cs ++ [⟨ty, vn, s⟩], _, l6, bad6, by omega, by go_num, ?_, HA8.out.set3 _, ?_, ?_, ?_⟩, by simp [intOf]; omega⟩
              · show _ = _
                rw [List.length_append, HL.out]; rfl
              · exact HO8.out.only VlR.fr ((Only.refl (· = b3) w8).setCell (p := ⟨b3, 3, none⟩) (.inl rfl) _) (fun x hx _ e => by omega)
              · exact ⟨HC8.out.1, HC8.out.2.far (p := ⟨b3, 3, none⟩) (by have := HLOW.out; dsimp only; omega) _⟩
              · exact HM.out.step (by have := HL.out; omega) H5.out
            | true =>
              have HF := Lib.hid (FinAt.rows HT.out HA.out HCL.out ⟨by have := HL.out; omega, hn⟩ HC.out (.inr rfl) HM.out H4.out)
              clear HM HCL
              go_wp2_with fail
              go_meet
              exact HF.out
          · have q2 : ¬ (k : Int) < (n : Int) := by omega
            have HF := Lib.hid (FinAt.rows HT.out HA.out HCL.out ⟨by have := HL.out; omega, hn⟩ HC.out (.inl (by have := HL.out; omega)) HM.out H4.out)
            clear HM HCL
            go_wp2_with fail
            go_meet
            exact HF.out
      · by_cases t3 : K = 3
        · have q1 : (((K : Nat) : Int) == 1) = false := beq_eq_false_iff_ne.2 (by omega)
          have q3 : (((K : Nat) : Int) == 2) = false := beq_eq_false_iff_ne.2 (by omega)
          have q4 : (((K : Nat) : Int) == 3) = true := by rw [t3]; rfl
          have HT : Hid (K = 2 ∨ K = 3) := .inr t3
          have HNM := Lib.hid (numR_any g 1 1 rfl l2 bad2 w3 HC3.out (by omega))
          clear c0 c1 c2 c3 f0 f1 f2 f3
          go_wp2_with fail
          refine HNM.out.mono ?_
          rintro e w4 ⟨n, rfl, hn, l3, bad3, hc4, ho4, h4⟩
          have hn : n < 256 := by simpa using hn
          rw [sig_small hn]
          have HA4 := Lib.hid (HA3.out.read ho4)
          have HC4 := Lib.hid hc4
          have H4 := Lib.hid h4
          have hs4 := ho4.size
          clear hc4 ho4 h4 d0 d1 d2 d3 k0 k1 k2 k3
          go_wp2_with fail
          go_loopw [9] (fun i wr => ∃ (k : Nat) (cs : List Pl.Vl) (va : Value) (lk : List UInt8) (bk : Bool), k ≤ n ∧ i = .int .i64 (k : Int) ∧ Hid (cs.length = k) ∧ Hid (OAt w g b2 b3 K nm (.slice none 0 0) va wr) ∧ Hid (VLL wr (b3 + 1) va cs) ∧ Hid (Cur wr g lk bk) ∧ Hid (MAt Pl.VlOk Pl.encV n l3 bad3 cs lk bk)) (fun i _ => n - (intOf i).toNat)
          case atStart => exact ⟨0, [], _, l3, bad3, Nat.zero_le _, rfl, rfl, HA4.out, OL.nil _ _, HC4.out, MAt.start _ _ _ _ _⟩
          case round =>
            obtain ⟨k, cs, va, lk, bk, hk, rfl, HL, HA, HCL, HC, HM⟩ := hrel
            have y1 := HC.out.2.cell 1
            simp only [List.getElem?_cons_succ, List.getElem?_cons_zero] at y1
            by_cases hkn : k < n
            · have q2 : (k : Int) < (n : Int) := by omega
              cases bk with
              | false =>
                have HSH := Lib.hid (valR_any g lk false wr HC.out)
                go_wp2_with fail
                refine HSH.out.mono ?_
                rintro e w5 ⟨⟨ty, vn, s⟩, rfl, hxb, l6, bad6, hc5, ho5, h5⟩
                unfold vlV
                dsimp only
                have HA5 := Lib.hid (HA.out.read ho5)
                have HCL5 := Lib.hid (HCL.out.only VlR.fr ho5 (fun x hx _ e => by have := HLOW.out; omega))
                have H5 := Lib.hid h5
                have HXB := Lib.hid hxb
                obtain ⟨w6, hw6⟩ : ∃ W, w5.alloc (.cells #[.int .i64 (ty : Nat), .int .i64 (sig vn), .string (tstr s)] 122) = W := ⟨_, rfl⟩
                have hb5 : Below w5.heap.size w5 w6 := by rw [← hw6]; exact below_alloc _ _
                have HA6 := Lib.hid (HA5.out.below hb5)
                have HCL6 := Lib.hid (HCL5.out.below VlR.fr hb5)
                have hc6 := hc5.below hb5
                have BX : Blk w6 w5.heap.size 122 [.int .i64 (ty : Nat), .int .i64 (sig vn), .string (tstr s)] := by rw [← hw6]; exact Blk.new w5 122 _
                obtain ⟨n0, n1, n2, m0, m1, m2⟩ := facts3 BX
                obtain ⟨d0, d1, d2, d3, k0, k1, k2, k3⟩ := facts4 HA6.out.r3
                obtain ⟨W6, hW6⟩ : ∃ W, w6.alloc (.cells #[.int .i64 (ty : Nat), .int .i64 (sig vn), .string (tstr s)] 122) = W := ⟨_, rfl⟩
                have hb6 : Below w6.heap.size w6 W6 := by rw [← hW6]; exact below_alloc _ _
                have S6 : Hid (Src W6 (some ⟨w6.heap.size, 0, none⟩) (vc ⟨ty, vn, s⟩)) := Src.of_blk (t := 122) (by rw [← hW6]; exact Blk.new w6 122 _)
                have HA7 := Lib.hid (HA6.out.below hb6)
                have HCL7 := Lib.hid (HCL6.out.below VlR.fr hb6)
                have HC7 := Lib.hid (hc6.below hb6)
                have HLN : Hid (cs.length ≤ 4294967296) := by rw [Hid, HL.out]; omega
                have hb7 : b3 + 1 ≤ W6.heap.size := HA7.out.r3.lt
                have R7 : Hid (VlR W6 (fun b => b3 + 1 ≤ b ∧ b < W6.heap.size ∧ va.ownBlock ≠ some b) (vc ⟨ty, vn, s⟩) ⟨ty, vn, s⟩) := ⟨rfl, HXB.out⟩
                clear hc5 hc6 ho5 h5 hb5 hb6 hxb BX HSH y1
                go_wp2_with (first
                  | (at_builtin
                     refine wpList_ol (v := va) VlR.fr rfl (.tmp 68) (.tmp 70) 119 rfl Tryz.underlying119 HJ.out.1 HJ.out.2.1 HJ.out.2.2.1 HJ.out.2.2.2 rfl (by decide) rfl HCL7.out (some ⟨w6.heap.size, 0, none⟩) 1 (vc ⟨ty, vn, s⟩) ⟨ty, vn, s⟩ rfl rfl S6.out (by simp [vc]; exact ⟨rfl, rfl, rfl⟩) R7.out HLN.out (by decide) hb7 ?_
                     intro v8 w8 o8 m8
                     obtain ⟨A8, n8, c8, rfl⟩ : ∃ A n c, v8 = .slice A n c := by obtain ⟨A, cap, _, h, _⟩ := o8.src VlR.fr; exact ⟨_, _, _, h⟩
                     have HO8 := Lib.hid o8
                     have hm8 := m8.only
                     have HA8 := Lib.hid (HA7.out.moves m8 (fun k hk => by have := (HCL7.out.lt k hk).1; omega))
                     have HC8 := Lib.hid (HC7.out.only hm8 (fun e => by have := (HCL7.out.lt g e).1; have := HLOW.out; omega))
                     obtain ⟨z0, z1, z2, z3, x0, x1, x2, x3⟩ := facts4 HA8.out.r3
                     clear o8 m8 hm8)
                  | fail)
                refine ⟨⟨k + 1, cs ++ [⟨ty, vn, s⟩], _, l6, bad6, by omega, by go_num, ?_, HA8.out.set3 _, ?_, ?_, ?_⟩, by simp [intOf]; omega⟩
                · show _ = _
                  rw [List.length_append, HL.out]; rfl
                · exact HO8.out.only VlR.fr ((Only.refl (· = b3) w8).setCell (p := ⟨b3, 3, none⟩) (.inl rfl) _) (fun x hx _ e => by omega)
                · exact ⟨HC8.out.1, HC8.out.2.far (p := ⟨b3, 3, none⟩) (by have := HLOW.out; dsimp only; omega) _⟩
                · exact HM.out.step (by have := HL.out; omega) H5.out
              | true =>
                have HF := Lib.hid (FinAt.rows HT.out HA.out HCL.out ⟨by have := HL.out; omega, hn⟩ HC.out (.inr rfl) HM.out H4.out)
                clear HM HCL
                go_wp2_with fail
                go_meet
                exact HF.out
            · have q2 : ¬ (k : Int) < (n : Int) := by omega
              have HF := Lib.hid (FinAt.rows HT.out HA.out HCL.out ⟨by have := HL.out; omega, hn⟩ HC.out (.inl (by have := HL.out; omega)) HM.out H4.out)
              clear HM HCL
              go_wp2_with fail
              go_meet
              exact HF.out
        · by_cases t4 : K = 4
          · have q1 : (((K : Nat) : Int) == 1) = false := beq_eq_false_iff_ne.2 (by omega)
            have q3 : (((K : Nat) : Int) == 2) = false := beq_eq_false_iff_ne.2 (by omega)
            have q4 : (((K : Nat) : Int) == 3) = false := beq_eq_false_iff_ne.2 (by omega)
            have q5 : (((K : Nat) : Int) == 4) = true := by rw [t4]; rfl
            have HT := Lib.hid t4
            have HSH := Lib.hid (valR_any g l2 bad2 w3 HC3.out)
            clear c0 c1 c2 c3 f0 f1 f2 f3
            go_wp2_with fail
            refine HSH.out.mono ?_
            rintro e w5 ⟨⟨ty, vn, s⟩, rfl, hxb, l6, bad6, hc5, ho5, h5⟩
            unfold vlV
            dsimp only
            have HA5 := Lib.hid (HA3.out.read ho5)
            have H5 := Lib.hid h5
            obtain ⟨w6, hw6⟩ : ∃ W, w5.alloc (.cells #[.int .i64 (ty : Nat), .int .i64 (sig vn), .string (tstr s)] 122) = W := ⟨_, rfl⟩
            have hb5 : Below w5.heap.size w5 w6 := by rw [← hw6]; exact below_alloc _ _
            have HA6 := Lib.hid (HA5.out.below hb5)
            have hc6 := hc5.below hb5
            have BX : Blk w6 w5.heap.size 122 [.int .i64 (ty : Nat), .int .i64 (sig vn), .string (tstr s)] := by rw [← hw6]; exact Blk.new w5 122 _
            obtain ⟨n0, n1, n2, m0, m1, m2⟩ := facts3 BX
            obtain ⟨W6, hW6⟩ : ∃ W, w6.alloc (.cells #[.int .i64 (ty : Nat), .int .i64 (sig vn), .string (tstr s)] 122) = W := ⟨_, rfl⟩
            have hb6 : Below w6.heap.size w6 W6 := by rw [← hW6]; exact below_alloc _ _
            have HO7 : Hid (VLL W6 (b3 + 1) (.slice (some ⟨w6.heap.size, 0, none⟩) 1 1) [⟨ty, vn, s⟩]) := by rw [← hW6]; exact VLL.lit w6 ⟨ty, vn, s⟩ _ HA6.out.r3.lt hxb
            have HA7 := Lib.hid (HA6.out.below hb6)
            have HC7 := Lib.hid (hc6.below hb6)
            obtain ⟨x6, hx6⟩ : ∃ x, w6.heap.size = x := ⟨_, rfl⟩
            rw [hx6] at HO7
            clear d0 d1 d2 d3 k0 k1 k2 k3
            obtain ⟨d0, d1, d2, d3, k0, k1, k2, k3⟩ := facts4 HA7.out.r3
            clear hc5 hc6 ho5 h5 hb5 hb6 hxb BX HSH
            go_wp2_with fail
            go_meet
            refine FinAt.one HT.out (HA7.out.set3 _) (HO7.out.only VlR.fr ((Only.refl (· = b3) W6).setCell (p := ⟨b3, 3, none⟩) (.inl rfl) _) (fun x hx _ e => by omega)) ⟨HC7.out.1, HC7.out.2.far (p := ⟨b3, 3, none⟩) (by have := HLOW.out; dsimp only; omega) _⟩ H5.out
          · have q1 : (((K : Nat) : Int) == 1) = false := beq_eq_false_iff_ne.2 (by omega)
            have q3 : (((K : Nat) : Int) == 2) = false := beq_eq_false_iff_ne.2 (by omega)
            have q4 : (((K : Nat) : Int) == 3) = false := beq_eq_false_iff_ne.2 (by omega)
            have q5 : (((K : Nat) : Int) == 4) = false := beq_eq_false_iff_ne.2 (by omega)
            have HF := Lib.hid (FinAt.none t1 t2 t3 t4 HA3.out HC3.out)
            go_wp2_with fail
            go_meet
            exact HF.out
  case rest =>
    obtain ⟨va, vb, cols, row, l3, bad3, hA, hCL, hVL, hbd, hsh, hC, hD⟩ := hcut.out
    obtain ⟨hown1, hcb⟩ := CLL.own hCL
    obtain ⟨hown2, hvb⟩ := VLL.own hVL
    have HD := Lib.hid hD
    have HSHP := Lib.hid hsh
    have HBD : Hid (OpB ⟨K, nm, cols, row⟩) := ⟨hK, by have := HNL.out; dsimp only; omega, ⟨hbd.1, hcb⟩, hbd.2, hvb⟩
    have HA := Lib.hid hA
    have HC := Lib.hid hC
    have HW1 := Lib.hid hown1
    have HW2 := Lib.hid hown2
    clear c0 c1 c2 c3 f0 f1 f2 f3 d0 d1 d2 d3 k0 k1 k2 k3
    obtain ⟨d0, d1, d2, d3, k0, k1, k2, k3⟩ := facts4 hA.r3
    obtain ⟨e0, e1, e2, e3, j0, j1, j2, j3⟩ := facts4 hA.r2
    obtain ⟨w6, hw6⟩ : ∃ w6, (((wc.setCell ⟨b2, 0, none⟩ (.int .i64 (K : Int))).setCell ⟨b2, 1, none⟩ (.string (tstr nm))).setCell ⟨b2, 2, none⟩ va).setCell ⟨b2, 3, none⟩ vb = w6 := ⟨_, rfl⟩
    have HB6 := Lib.hid (show Blk w6 b2 151 [.int .i64 (K : Int), .string (tstr nm), va, vb] by rw [← hw6]; exact (((hA.r2.set_ 0 _).set_ 1 _).set_ 2 _).set_ 3 _)
    have ho6 : Only (· = b2) wc w6 := by
      rw [← hw6]
      exact ((((Only.refl (· = b2) wc).setCell (p := ⟨b2, 0, none⟩) (.inl rfl) _).setCell (p := ⟨b2, 1, none⟩) (.inl rfl) _).setCell (p := ⟨b2, 2, none⟩) (.inl rfl) _).setCell (p := ⟨b2, 3, none⟩) (.inl rfl) _
    have HO6 := Lib.hid ho6
    obtain ⟨A1, n1, cc1, rfl⟩ : ∃ A n c, va = .slice A n c := by obtain ⟨A, cap, h, _⟩ := own_src hown1; exact ⟨_, _, _, h⟩
    obtain ⟨A2, n2, cc2, rfl⟩ : ∃ A n c, vb = .slice A n c := by obtain ⟨A, cap, h, _⟩ := own_src hown2; exact ⟨_, _, _, h⟩
    clear hD hsh hA hC hown1 hown2 hCL hVL hcb hvb hbd ho6
    go_wp2_with fail
    have hlow := HLOW.out
    refine bodyPost_ret (results_opR rfl rfl HB6.out) rfl ⟨_, (⟨K, nm, cols, row⟩ : Pl.Opn), rfl, ⟨_, _, rfl, own_base (HO6.out.own HW1.out (fun x hx e => ?_)) (by omega), own_base (HO6.out.own HW2.out (fun x hx e => ?_)) (by omega)⟩, HBD.out, HSHP.out, l3, bad3, HC.out.only HO6.out (by omega), HA.out.only.trans HO6.out (fun k hk e => by omega), ?_⟩
    · have := (HW1.out.lt x hx).1; omega
    · have := (HW2.out.lt x hx).1; omega
    · rintro ⟨ok, ot, oc, orr⟩ r ⟨hb, ho⟩ hr
      obtain ⟨hp, hp1, hp2⟩ := encOp_parts ho
      rw [hp, List.append_assoc, List.append_assoc] at hr
      obtain ⟨rfl, a2, a3⟩ := H1.out ok _ (by simpa using hp1) hr
      obtain ⟨rfl, a5, a6⟩ := H2.out ot _ hp2 a2
      obtain ⟨rfl, rfl, a8, a9⟩ := HD.out _ r (a6.trans (a3.trans hb)) ho rfl a5
      exact ⟨rfl, a8, a9.trans hb.symm⟩
end Go.Proofs.YtljmklohgpaopaaGreatDoor

namespace Go.Proofs.YtljmklohgpaopaaGreatDoor
open Go.RowKit

instance : DecidablePred Pl.VlOk := fun v => by unfold Pl.VlOk; infer_instance
theorem vlOk_eq {x : Pl.Vl} (hx : VlB x) : decide (Pl.VlOk x) = (if x.ty = 1 then (tstr x.s).data.toList.isEmpty else if x.ty = 2 then (decide (x.n = 0) && decide (x.s.length ≤ 16)) else false) := by
  obtain ⟨ty, n, s⟩ := x
  obtain ⟨_, hn, _⟩ := hx
  dsimp only at hn ⊢
  rw [show (tstr s).data.toList = s by simp [tstr]]
  rw [Bool.eq_iff_iff, decide_eq_true_iff]
  unfold Pl.VlOk
  dsimp only
  by_cases h1 : ty = 1
  · rw [if_pos h1]
    simp only [List.isEmpty_iff]
    constructor
    · rintro (⟨_, h, _⟩ | ⟨h, _⟩)
      · exact h
      · omega
    · exact fun h => .inl ⟨h1, h, hn⟩
  · rw [if_neg h1]
    by_cases h2 : ty = 2
    · rw [if_pos h2]
      simp [h1, h2]
    · rw [if_neg h2]
      simp [h1, h2]
set_option maxHeartbeats 1000000 in
theorem valRight_any (x : Pl.Vl) (w : World) (hx : VlB x) :
    Calls Tryz.prog 120 #[vlV x] w fun e w' => e = .returned (.bool (decide (Pl.VlOk x))) ∧ Below w.heap.size w w' := by
  rw [vlOk_eq hx]
  obtain ⟨ty, n, s⟩ := x
  obtain ⟨_, hn, hs⟩ := hx
  unfold vlV
  dsimp only at hn hs ⊢
  have hz := tstr_size s
  have hsn := sig_zero hn
  obtain ⟨N, hN⟩ : ∃ N, sig n = N := ⟨_, rfl⟩
  have hs0 : s.length = (tstr s).size := hz.symm
  rw [hs0]
  obtain ⟨st, hst⟩ : ∃ st, tstr s = st := ⟨_, rfl⟩
  rw [hst]
  rw [hN] at hsn ⊢
  clear hst hN hz hs0
  obtain ⟨w1, hw1⟩ : ∃ w1, w.alloc (.cells #[.int .i64 (ty : Nat), .int .i64 N, .string st] 122) = w1 := ⟨_, rfl⟩
  have hb1 : Below w.heap.size w w1 := by rw [← hw1]; exact below_alloc _ _
  have B1 : Blk w1 w.heap.size 122 [.int .i64 (ty : Nat), .int .i64 N, .string st] := by rw [← hw1]; exact Blk.new w 122 _
  have c0 : w1.cell? ⟨w.heap.size, 0, none⟩ = some (.int .i64 (ty : Nat)) := B1.cell 0
  have c1 : w1.cell? ⟨w.heap.size, 1, none⟩ = some (.int .i64 N) := B1.cell 1
  have c2 : w1.cell? ⟨w.heap.size, 2, none⟩ = some (.string st) := B1.cell 2
  have HB1 := Lib.hid hb1
  clear hb1 B1
  by_cases h1 : ty = 1
  · have q1 : (((ty : Nat) : Int) == 1) = true := by rw [h1]; rfl
    rw [if_pos h1]
    clear hsn h1
    go_enter Tryz.func120, Tryz.ntmps120
    go_wp2_with fail
    go_ret
    refine ⟨?_, HB1.out⟩
    have e : st.toList.isEmpty = st.data.isEmpty := by rw [ByteArray.toList_eq]; simp
    exact congrArg (fun b => Ending.returned (.bool b)) e
  · rw [if_neg h1]
    have q1 : (((ty : Nat) : Int) == 1) = false := by simp; omega
    by_cases h2 : ty = 2
    · have q2 : (((ty : Nat) : Int) == 2) = true := by rw [h2]; rfl
      rw [if_pos h2]
      by_cases h3 : n = 0
      · have q3 : (N == 0) = true := by rw [hsn, h3]; rfl
        have p3 : decide (((st.size : Nat) : Int) ≤ 16) = decide (st.size ≤ 16) := by rw [Bool.eq_iff_iff, decide_eq_true_iff, decide_eq_true_iff]; omega
        rw [decide_eq_true h3]
        clear hsn h1 h2 h3
        go_enter Tryz.func120, Tryz.ntmps120
        go_wp2_with fail
        go_ret
        refine ⟨?_, HB1.out⟩
        simp
      · have q3 : (N == 0) = false := by rw [hsn]; exact decide_eq_false h3
        rw [decide_eq_false h3]
        clear hsn h1 h2 h3
        go_enter Tryz.func120, Tryz.ntmps120
        go_wp2_with fail
        go_ret
        exact ⟨rfl, HB1.out⟩
    · rw [if_neg h2]
      have q2 : (((ty : Nat) : Int) == 2) = false := by simp; omega
      clear hsn h1 h2
      go_enter Tryz.func120, Tryz.ntmps120
      go_wp2_with fail
      go_ret
      exact ⟨rfl, HB1.out⟩
theorem cols_not {cols : List Pl.Cl} {c : Pl.Cl} (h : c ∈ cols) (hc : ¬ Pl.ClOk c) : decide (Pl.ClsOk cols) = false := decide_eq_false fun ⟨_, h2, _⟩ => hc (h2 c h)
theorem cols_dup {cols : List Pl.Cl} {j k : Nat} {c d : Pl.Cl} (hj : cols[j]? = some d) (hk : cols[k]? = some c) (hjk : j < k) (he : d.name = c.name) : decide (Pl.ClsOk cols) = false := by
  refine decide_eq_false fun ⟨_, _, h3⟩ => ?_
  obtain ⟨hj1, rfl⟩ := List.getElem?_eq_some_iff.1 hj
  obtain ⟨hk1, rfl⟩ := List.getElem?_eq_some_iff.1 hk
  have := List.pairwise_iff_getElem.1 h3 j k (by simpa using hj1) (by simpa using hk1) hjk
  simp only [List.getElem_map] at this
  exact this he
theorem names_not {cols : List Pl.Cl} {k : Nat} {nm : List UInt8} (hk : k < cols.length) (h : ∀ j d, j < k → cols[j]? = some d → d.name ≠ nm) : ((cols.take k).map Pl.Cl.name).count nm = 0 := by
  refine List.count_eq_zero.2 fun hm => ?_
  obtain ⟨d, hd, he⟩ := List.mem_map.1 hm
  obtain ⟨j, hj, rfl⟩ := List.getElem_of_mem hd
  have hj2 : j < k := by rw [List.length_take] at hj; omega
  exact h j _ hj2 (by rw [List.getElem_take]; exact List.getElem?_eq_getElem (by omega)) he
set_option maxHeartbeats 2000000 in
set_option maxRecDepth 100000 in
theorem colsRight_any (A : Option Addr) (cap : Nat) (cols : List Pl.Cl) (w : World) (hs : Src w A (clcs cols)) (hb : ∀ c ∈ cols, ClB c) (hl : cols.length < 256) :
    Calls Tryz.prog 119 #[.slice A cols.length cap] w fun e w' => e = .returned (.bool (decide (Pl.ClsOk cols))) ∧ Below w.heap.size w w' := by
  obtain ⟨n, hn⟩ : ∃ n, cols.length = n := ⟨_, rfl⟩
  have HN := Lib.hid hn
  rw [hn] at hl ⊢
  have HS := Lib.hid hs
  have HB := Lib.hid hb
  by_cases h1 : 1 ≤ n
  · by_cases h2 : n ≤ 4
    · have q1 : ¬ (n : Int) < 1 := by omega
      have q2 : ¬ (4 : Int) < (n : Int) := by omega
      have d1 := decide_eq_false q1
      have d2 := decide_eq_false q2
      have hne : 0 < (clcs cols).length := by
        match cols, hn with
        | [], hn => simp at hn; omega
        | a :: r, _ => simp [clcs, clc]
      obtain ⟨b, off, rfl⟩ := hs.addr hne
      clear hs hb hne hn
      go_enter Tryz.func119, Tryz.ntmps119
      go_wp2_with fail
      go_loopw [3] (fun i wr => ∃ k : Nat, k ≤ n ∧ i = .int .i64 (k : Int) ∧ Hid (Below w.heap.size w wr) ∧ Hid ((∀ x ∈ cols.take k, Pl.ClOk x) ∧ ((cols.take k).map Pl.Cl.name).Nodup)) (fun i _ => n - (intOf i).toNat)
      case atStart => exact ⟨0, Nat.zero_le _, rfl, Below.refl _ _, by simp, by simp⟩
      case round =>
        obtain ⟨k, hk, rfl, HBW, HOK⟩ := hrel
        by_cases hkn : k < n
        · have q3 : (k : Int) < (n : Int) := by omega
          have q4 : (0 : Int) ≤ (k : Int) := by omega
          obtain ⟨c, hc⟩ : ∃ c, cols[k]? = some c := ⟨_, List.getElem?_eq_getElem (by rw [HN.out]; exact hkn)⟩
          have HC := Lib.hid hc
          have hcb := HB.out c (List.mem_of_getElem? hc)
          obtain ⟨at0, at1⟩ := clcs_at cols k c hc
          have g0 := (HS.out.below HBW.out).cell _ _ at0
          have g1 := (HS.out.below HBW.out).cell _ _ at1
          rw [← Nat.add_assoc] at g1
          obtain ⟨nm, ty⟩ := c
          dsimp only at g0 g1 hcb
          have hNM : Hid (nm.length ≤ 255) := hcb.1
          have hty := hcb.2
          have HIS := Lib.hid (refIsName_any (tstr nm) wr (by rw [tstr_size]; have := hNM.out; omega))
          rw [show (tstr nm).data.toList = nm by simp [tstr]] at HIS
          clear at0 at1 hc hcb
          go_wp2_with fail
          refine HIS.out.mono ?_
          rintro e w3 ⟨rfl, rfl⟩
          by_cases hok : Pl.NameOk nm
          · rw [decide_eq_true hok]
            by_cases t1 : ty = 1
            · have p1 : (((ty : Nat) : Int) != 1) = false := by rw [t1]; rfl
              have p2 : (((ty : Nat) : Int) != 2) = true := by simp; omega
              have HCO : Hid (Pl.ClOk ⟨nm, ty⟩) := ⟨hok, .inl t1⟩
              clear t1
              go_wp2_with fail
              obtain ⟨wo, hwo⟩ : ∃ x, wr = x := ⟨_, rfl⟩
              subst hwo
              go_loopw [5] (fun j wr => ∃ m : Nat, m ≤ k ∧ j = .int .i64 (m : Int) ∧ Hid (Below w.heap.size w wr) ∧ Hid (∀ (i : Nat) (d : Pl.Cl), i < m → cols[i]? = some d → d.name ≠ nm)) (fun j _ => k - (intOf j).toNat)
              case atStart => exact ⟨0, Nat.zero_le _, rfl, HBW.out, fun i d h => absurd h (Nat.not_lt_zero _)⟩
              case round =>
                obtain ⟨m, hm, rfl, HBX, HNE⟩ := hrel
                by_cases hmk : m < k
                · have r3 : (m : Int) < (k : Int) := by omega
                  have r4 : (0 : Int) ≤ (m : Int) := by omega
                  have r5 : (m : Int) < (n : Int) := by omega
                  obtain ⟨d, hd⟩ : ∃ c, cols[m]? = some c := ⟨_, List.getElem?_eq_getElem (by rw [HN.out]; omega)⟩
                  have HD := Lib.hid hd
                  have e0 := (HS.out.below HBX.out).cell _ _ (clcs_at cols m d hd).1
                  have g0 := (HS.out.below HBX.out).cell _ _ (clcs_at cols k _ HC.out).1
                  dsimp only at g0
                  obtain ⟨dn, dty⟩ := d
                  dsimp only at e0
                  clear hd
                  by_cases he : dn = nm
                  · have HF := Lib.hid (cols_dup HD.out HC.out hmk he)
                    subst he
                    go_wp2_with fail
                    go_quiet (fail)
                    go_wp2_with fail
                    go_ret
                    rw [HF.out]
                    exact ⟨rfl, below_drewN HBX.out _⟩
                  · have hnb : ((tstr dn).toList == (tstr nm).toList) = false := by rw [tstr_beq]; exact beq_eq_false_iff_ne.2 he
                    have HE := Lib.hid he
                    clear he
                    go_wp2_with fail
                    go_quiet (fail)
                    go_wp2_with fail
                    refine ⟨⟨m + 1, by omega, by go_num, below_drewN HBX.out _, fun i d hi hd => ?_⟩, by simp [intOf]; omega⟩
                    by_cases him : i < m
                    · exact HNE.out i d him hd
                    · obtain rfl : i = m := by omega
                      rw [HD.out] at hd
                      injection hd with hd
                      subst hd
                      exact HE.out
                · obtain rfl : m = k := by omega
                  have r3 : ¬ (m : Int) < (m : Int) := by omega
                  have HX := Lib.hid (cols_next HC.out HOK.out.1 HOK.out.2 HCO.out (names_not (by rw [HN.out]; exact hkn) HNE.out))
                  go_wp2_with fail
                  refine ⟨⟨m + 1, by omega, by go_num, HBX.out, HX.out⟩, by simp [intOf]; omega⟩
            · by_cases t2 : ty = 2
              · have p1 : (((ty : Nat) : Int) != 1) = true := by simp; omega
                have p2 : (((ty : Nat) : Int) != 2) = false := by rw [t2]; rfl
                have HCO : Hid (Pl.ClOk ⟨nm, ty⟩) := ⟨hok, .inr t2⟩
                clear t1 t2
                go_wp2_with fail
                obtain ⟨wo, hwo⟩ : ∃ x, wr = x := ⟨_, rfl⟩
                subst hwo
                go_loopw [5] (fun j wr => ∃ m : Nat, m ≤ k ∧ j = .int .i64 (m : Int) ∧ Hid (Below w.heap.size w wr) ∧ Hid (∀ (i : Nat) (d : Pl.Cl), i < m → cols[i]? = some d → d.name ≠ nm)) (fun j _ => k - (intOf j).toNat)
                case atStart => exact ⟨0, Nat.zero_le _, rfl, HBW.out, fun i d h => absurd h (Nat.not_lt_zero _)⟩
                case round =>
                  obtain ⟨m, hm, rfl, HBX, HNE⟩ := hrel
                  by_cases hmk : m < k
                  · have r3 : (m : Int) < (k : Int) := by omega
                    have r4 : (0 : Int) ≤ (m : Int) := by omega
                    have r5 : (m : Int) < (n : Int) := by omega
                    obtain ⟨d, hd⟩ : ∃ c, cols[m]? = some c := ⟨_, List.getElem?_eq_getElem (by rw [HN.out]; omega)⟩
                    have HD := Lib.hid hd
                    have e0 := (HS.out.below HBX.out).cell _ _ (clcs_at cols m d hd).1
                    have g0 := (HS.out.below HBX.out).cell _ _ (clcs_at cols k _ HC.out).1
                    dsimp only at g0
                    obtain ⟨dn, dty⟩ := d
                    dsimp only at e0
                    clear hd
                    by_cases he : dn = nm
                    · have HF := Lib.hid (cols_dup HD.out HC.out hmk he)
                      subst he
                      go_wp2_with fail
                      go_quiet (fail)
                      go_wp2_with fail
                      go_ret
                      rw [HF.out]
                      exact ⟨rfl, below_drewN HBX.out _⟩
                    · have hnb : ((tstr dn).toList == (tstr nm).toList) = false := by rw [tstr_beq]; exact beq_eq_false_iff_ne.2 he
                      have HE := Lib.hid he
                      clear he
                      go_wp2_with fail
                      go_quiet (fail)
                      go_wp2_with fail
                      refine ⟨⟨m + 1, by omega, by go_num, below_drewN HBX.out _, fun i d hi hd => ?_⟩, by simp [intOf]; omega⟩
                      by_cases him : i < m
                      · exact HNE.out i d him hd
                      · obtain rfl : i = m := by omega
                        rw [HD.out] at hd
                        injection hd with hd
                        subst hd
                        exact HE.out
                  · obtain rfl : m = k := by omega
                    have r3 : ¬ (m : Int) < (m : Int) := by omega
                    have HX := Lib.hid (cols_next HC.out HOK.out.1 HOK.out.2 HCO.out (names_not (by rw [HN.out]; exact hkn) HNE.out))
                    go_wp2_with fail
                    refine ⟨⟨m + 1, by omega, by go_num, HBX.out, HX.out⟩, by simp [intOf]; omega⟩
              · have p1 : (((ty : Nat) : Int) != 1) = true := by simp; omega
                have p2 : (((ty : Nat) : Int) != 2) = true := by simp; omega
                have HF := Lib.hid (cols_not (List.mem_of_getElem? HC.out) (fun h => by rcases h.2 with e | e; exact t1 e; exact t2 e))
                clear t1 t2
                go_wp2_with fail
                go_ret
                rw [HF.out]
                exact ⟨rfl, HBW.out⟩
          · rw [decide_eq_false hok]
            have HF := Lib.hid (cols_not (List.mem_of_getElem? HC.out) (fun h => hok h.1))
            go_wp2_with fail
            go_ret
            rw [HF.out]
            exact ⟨rfl, HBW.out⟩
        · obtain rfl : k = n := by omega
          have HF : Hid (decide (Pl.ClsOk cols) = true) := by
            obtain ⟨h3, h4⟩ := HOK.out
            rw [List.take_of_length_le (by rw [HN.out]; exact Nat.le_refl _)] at h3 h4
            exact decide_eq_true ⟨by rw [HN.out]; exact ⟨h1, h2⟩, h3, h4⟩
          have q3 : ¬ (k : Int) < (k : Int) := by omega
          go_wp2_with fail
          go_ret
          rw [HF.out]
          exact ⟨rfl, HBW.out⟩
    · have q1 : ¬ (n : Int) < 1 := by omega
      have q2 : (4 : Int) < (n : Int) := by omega
      have d1 := decide_eq_false q1
      have d2 := decide_eq_true q2
      have HF : Hid (decide (Pl.ClsOk cols) = false) := decide_eq_false fun ⟨h, _⟩ => by have := HN.out; omega
      clear hs hb hn
      go_enter Tryz.func119, Tryz.ntmps119
      go_wp2_with fail
      go_ret
      rw [HF.out]
      exact ⟨rfl, Below.refl _ _⟩
  · have q1 : (n : Int) < 1 := by omega
    have d1 := decide_eq_true q1
    have HF : Hid (decide (Pl.ClsOk cols) = false) := decide_eq_false fun ⟨h, _⟩ => by have := HN.out; omega
    clear hs hb hn
    go_enter Tryz.func119, Tryz.ntmps119
    go_wp2_with fail
    go_ret
    rw [HF.out]
    exact ⟨rfl, Below.refl _ _⟩
end Go.Proofs.YtljmklohgpaopaaGreatDoor
