/- A tree's pages: together, of inner ones. A tree's pages: replaced, its first half: a small page goes together with one beside it. -/
import Derived.Test.YtljmklohgpaopaaGreatDoorMgPlanted13
import Derived.Test.YtljmklohgpaopaaGreatDoorMgPlanted6
set_option linter.unusedVariables false
set_option linter.unusedSimpArgs false

namespace Go.Proofs.YtljmklohgpaopaaGreatDoor
open Go.RowKit
set_option linter.unusedSectionVars false
variable [Inhabited LoT]

theorem ksCells_append (a b : List Pl.Key) : ksCells (a ++ b) = ksCells a ++ ksCells b := by unfold ksCells; rw [List.map_append]
theorem refsCells_append (a b : List Nat) : refsCells (a ++ b) = refsCells a ++ refsCells b := by unfold refsCells; rw [List.map_append]
theorem ksCells_len (a : List Pl.Key) : (ksCells a).length = a.length * 1 := by unfold ksCells; rw [List.length_map, Nat.mul_one]
theorem refsCells_len (a : List Nat) : (refsCells a).length = a.length * 1 := by unfold refsCells; rw [List.length_map, Nat.mul_one]
/-- A kid's place among two runs. -/
theorem kids_append {G : Gh} {h : Nat} {ra rb : List Nat} {ca cb : List (Pl.Tr h)} (hl : ra.length = ca.length) (ha : ∀ (i r : Nat) (c : Pl.Tr h), ra[i]? = some r → ca[i]? = some c → G r = some ⟨h, c⟩) (hb : ∀ (i r : Nat) (c : Pl.Tr h), rb[i]? = some r → cb[i]? = some c → G r = some ⟨h, c⟩) :
    ∀ (i r : Nat) (c : Pl.Tr h), (ra ++ rb)[i]? = some r → (ca ++ cb)[i]? = some c → G r = some ⟨h, c⟩ := by
  intro i r c hr hc
  rcases Nat.lt_or_ge i ra.length with hi | hi
  · rw [List.getElem?_append_left hi] at hr
    rw [List.getElem?_append_left (by omega)] at hc
    exact ha i r c hr hc
  · rw [List.getElem?_append_right hi] at hr
    rw [List.getElem?_append_right (by omega)] at hc
    exact hb _ r c hr (by rw [hl]; exact hc)
theorem Mv.fresh {a b : World} {v : Value} (h : Mv a b (.slice none 0 0) v) : Below a.heap.size a b := h.only.toBelow (Nat.le_refl _) (fun _ _ hk => by cases hk)
/-- An append to what was made since. -/
theorem Mv.since {w0 a b : World} {u v : Value} {e : TypeId} {s n : Nat} {cs : List Value} (hb : Below w0.heap.size w0 a) (hr : Rw e s a w0.heap.size u n cs) (h : Mv a b u v) : Below w0.heap.size w0 b := hb.trans (h.belowR hr hb.size)
theorem Src.only_fresh {a b : World} {v : Value} {A : Option Addr} {cs : List Value} (h : Mv a b (.slice none 0 0) v) (hs : Src a A cs) : Src b A cs := hs.below h.fresh
set_option maxRecDepth 100000 in
set_option maxHeartbeats 4000000 in
theorem together_inner (h : Nat) (a b : Pl.Tr (h + 1)) (key : Pl.Key) (va vb : Value) (w : World) (G : Gh) (ha : PgOk w G va (h + 1) a none) (hb : PgOk w G vb (h + 1) b none) (hsz : Pl.isz a.1 + Pl.isz b.1 ≤ 256 + 85) (hk : Pl.KeyFit key)
    (hka : ∀ k ∈ a.1, k.length ≤ 40) (hkb : ∀ k ∈ b.1, k.length ≤ 40) (hla : a.2.length = a.1.length + 1) (hlb : b.2.length = b.1.length + 1) :
    Calls Tryz.prog 185 #[va, .string (tstr key), vb] w fun e w' => ∃ rv, e = .returned rv ∧ RowAt w' G (h + 1) rv (Pl.together (h + 1) a key b) ∧ Below w.heap.size w w' := by
  obtain ⟨ra, ⟨pa, rfl, Aa, ca, Ra, da, ba, hca, hda, hta, hua⟩, hra, hga, _⟩ := ha
  obtain ⟨rb, ⟨pb, rfl, Ab, cb, Rb, db, bb, hcb, hdb, htb, hub⟩, hrb, hgb, _⟩ := hb
  have hll : Pl.isz (a.1 ++ key :: b.1) ≤ 420 := by
    have h1 := Pl.isz_append a.1 (key :: b.1)
    rw [Pl.isz_cons] at h1
    have := hk.2
    omega
  have hna := len_le_isz a.1
  have hnb := len_le_isz b.1
  obtain ⟨w1, hw1⟩ : ∃ w1, w.alloc (.cells #[.slice none 0 0, .slice none 0 0] 242) = w1 := ⟨_, rfl⟩
  have hb1 : Below w.heap.size w w1 := by rw [← hw1]; exact (Below.refl _ _).alloc (Nat.le_refl _) _
  have B1 : Blk w1 w.heap.size 242 [.slice none 0 0, .slice none 0 0] := by rw [← hw1]; exact Blk.new w 242 _
  obtain ⟨gx, hgx⟩ : ∃ g, w.heap.size = g := ⟨_, rfl⟩
  rw [hgx] at B1
  have HGX := Lib.hid hgx
  have HX := Lib.hid B1
  have HB1 := Lib.hid hb1
  have BA := Lib.hid (ba.below hb1 ba.lt)
  have BB := Lib.hid (bb.below hb1 bb.lt)
  have TA := Lib.hid (hta.below hb1)
  have TB := Lib.hid (htb.below hb1)
  have UA := Lib.hid (hua.below hb1)
  have UB := Lib.hid (hub.below hb1)
  obtain ⟨n, hn⟩ : ∃ n, a.1.length = n := ⟨_, rfl⟩
  obtain ⟨m, hm⟩ : ∃ n, b.1.length = n := ⟨_, rfl⟩
  have hrn : ra.length = n + 1 := by omega
  have hrm : rb.length = m + 1 := by omega
  have HN := Lib.hid hn
  have HM := Lib.hid hm
  have HRN := Lib.hid hrn
  have HRM := Lib.hid hrm
  have cells := fun (W : World) (hW : Below w1.heap.size w1 W) => (show W.cell? ⟨pa, 0, none⟩ = some (.slice Aa n ca) ∧ W.cell? ⟨pb, 0, none⟩ = some (.slice Ab m cb) ∧ W.cell? ⟨pa, 1, none⟩ = some (.slice Ra (n + 1) da) ∧ W.cell? ⟨pb, 1, none⟩ = some (.slice Rb (m + 1) db) from by
    obtain ⟨c0, c1, _, _⟩ := facts2 (BA.out.below hW BA.out.lt)
    obtain ⟨d0, d1, _, _⟩ := facts2 (BB.out.below hW BB.out.lt)
    rw [hn] at c0; rw [hrn] at c1; rw [hm] at d0; rw [hrm] at d1
    exact ⟨c0, d0, c1, d1⟩)
  have CELLS := Lib.hid cells
  obtain ⟨c0, d0, c1, d1⟩ := cells w1 (Below.refl _ _)
  have hnm : n + m ≤ 400 := by omega
  have HIN : Hid (∀ (A1 A2 : Option Addr) (k1 k2 : Nat) (W : World), TSrc W A1 (ksCells (a.1 ++ key :: b.1)) 9 → TSrc W A2 (refsCells (ra ++ rb)) 156 → n + 1 + m ≤ k1 → n + 1 + (m + 1) ≤ k2 →
      Calls Tryz.prog 186 #[.slice A1 (n + 1 + m) k1, .slice A2 (n + 1 + (m + 1)) k2] W fun e w' => ∃ rv, e = .returned rv ∧ RowAt w' G (h + 1) rv (Pl.together (h + 1) a key b) ∧ Below W.heap.size W w') := by
    intro A1 A2 k1 k2 W h1 h2 h3 h4
    have e1 : n + 1 + m = (a.1 ++ key :: b.1).length := by rw [List.length_append, List.length_cons, hn, hm]; omega
    have e2 : n + 1 + (m + 1) = (ra ++ rb).length := by rw [List.length_append, hrn, hrm]
    have := inners_any A1 A2 k1 k2 (a.1 ++ key :: b.1) (ra ++ rb) h (a.2 ++ b.2) W G h1 h2 (by omega) (by omega) (by rw [List.length_append, List.length_append, hra, hrb]) (by rw [List.length_append, List.length_append, List.length_cons]; omega) (kids_append hra hga hgb) hll (fun k hk' => by
      rcases List.mem_append.1 hk' with h' | h'
      · exact hka k h'
      · rcases List.mem_cons.1 h' with rfl | h'
        · exact hk.2
        · exact hkb k h')
    rw [e1, e2]
    exact this
  have HKC : Hid (ksCells (a.1 ++ key :: b.1) = ksCells a.1 ++ ksCells [key] ++ ksCells b.1) := by rw [Hid, ← ksCells_append, ← ksCells_append]; simp
  clear hb1 B1 ba bb hta htb hua hub hca hcb hda hdb hsz hll hna hnb cells hka hkb hla hlb hk
  have m1 : ∀ (W : World), (Instr.typeAssert (.iface 180 (.pointer (some ⟨pa, 0, none⟩))) 166 161 true).run Tryz.prog W = .ok (.tuple #[.pointer none, .bool false]) W := fun W => by kernel_rfl
  have m2 : ∀ (W : World), (Instr.typeAssert (.iface 180 (.pointer (some ⟨pa, 0, none⟩))) 166 180 true).run Tryz.prog W = .ok (.tuple #[.pointer (some ⟨pa, 0, none⟩), .bool true]) W := fun W => by kernel_rfl
  have m3 : ∀ (W : World), (Instr.typeAssert (.iface 180 (.pointer (some ⟨pb, 0, none⟩))) 166 180 false).run Tryz.prog W = .ok (.pointer (some ⟨pb, 0, none⟩)) W := fun W => by kernel_rfl
  have hbk : Below w1.heap.size w1 (w1.alloc (.cells #[.string (tstr key)] 9)).drew := ((Below.refl _ _).alloc (Nat.le_refl _) _).drew
  have HBK := Lib.hid hbk
  have HSK : Hid (Src (w1.alloc (.cells #[.string (tstr key)] 9)).drew (some ⟨w1.heap.size, 0, none⟩) (ksCells [key])) := src_str w1 key
  have S0 := Lib.hid (show w1.cell? ⟨pa, 0, none⟩ = some (.slice Aa n ca) ∧ w1.cell? ⟨pb, 0, none⟩ = some (.slice Ab m cb) from ⟨c0, d0⟩)
  have S1 := Lib.hid (show (w1.alloc (.cells #[.string (tstr key)] 9)).drew.cell? ⟨pa, 0, none⟩ = some (.slice Aa n ca) ∧ (w1.alloc (.cells #[.string (tstr key)] 9)).drew.cell? ⟨pb, 0, none⟩ = some (.slice Ab m cb) from ⟨(CELLS.out _ hbk).1, (CELLS.out _ hbk).2.1⟩)
  have HL1 : Hid (w1.heap.size ≤ (w1.alloc (.cells #[.string (tstr key)] 9)).drew.heap.size) := hbk.size
  have RN : Hid (Rw 9 1 (w1.alloc (.cells #[.string (tstr key)] 9)).drew w1.heap.size (.slice none 0 0) 0 []) := Rw.nil _ _
  have RN0 : Hid (Rw 9 1 w1.drew w1.heap.size (.slice none 0 0) 0 []) := Rw.nil _ _
  clear hbk
  unfold innerV
  go_enter Tryz.func185, Tryz.ntmps185
  go_upto_region 9 with fail
  go_cut [11] from 34 to 59 (fun s11 wx => Hid (Rw 9 1 wx w1.heap.size s11 (n + 1 + m) (ksCells (a.1 ++ key :: b.1))) ∧ Hid (Below w1.heap.size w1 wx))
  case first =>
    go_wp2_with fail
    go_region_held3 (fun W : World => W.cell? ⟨pa, 0, none⟩ = some (.slice Aa n ca) ∧ W.cell? ⟨pb, 0, none⟩ = some (.slice Ab m cb)) (first | exact S0.out | exact S1.out | exact S2.out | exact S2a.out | exact S3.out | exact S4.out) (first
      | (refine step_rw Tryz.eltString rfl (.const (.slice none 0 0)) (.tmp 37) rfl rfl RN.out Aa n ca (ksCells a.1) rfl (by rw [ksCells_len, HN.out]) (by exact (TA.out.below HBK.out).1) (ksCells_one _) (by omega) HL1.out ?_
         intro v2 w2 r2 m2'
         rw [Nat.zero_add, List.nil_append] at r2
         have R2a := Lib.hid r2
         have HB2a := Lib.hid (Mv.since HBK.out RN.out m2')
         have HSK2 : Hid (Src w2 (some ⟨w1.heap.size, 0, none⟩) (ksCells [key])) := Src.only_fresh m2' HSK.out
         have HSK2a := HSK2
         have S2a := Lib.hid (And.intro (CELLS.out _ HB2a.out).1 (CELLS.out _ HB2a.out).2.1)
         have S2 := S2a
         clear r2 m2')
      | (refine step_rw Tryz.eltString rfl (.const (.slice none 0 0)) (.tmp 37) rfl rfl RN0.out Aa n ca (ksCells a.1) rfl (by rw [ksCells_len, HN.out]) (by exact TA.out.1) (ksCells_one _) (by omega) (by exact Nat.le_refl _) ?_
         intro v2 w2 r2 m2'
         rw [Nat.zero_add, List.nil_append] at r2
         have R2 := Lib.hid r2
         have M2 : Hid (Mv w1 w2 (.slice none 0 0) v2) := Mv.beforeR (base := 0) (n := 0) (cs := []) ((Below.refl w1.heap.size w1).drew) m2'
         have HB2 := Lib.hid (Mv.fresh M2.out)
         have HB2a := Lib.hid (HB2.out.trans (((Below.refl w2.heap.size w2).alloc (Nat.le_refl _) (.cells #[.string (tstr key)] 9)).mono HB2.out.size))
         have HSK2a : Hid (Src (w2.alloc (.cells #[.string (tstr key)] 9)) (some ⟨w2.heap.size, 0, none⟩) (ksCells [key])) := src_str w2 key
         have R2a := Lib.hid (R2.out.alloc (.cells #[.string (tstr key)] 9))
         have S2 := Lib.hid (And.intro (CELLS.out _ HB2.out).1 (CELLS.out _ HB2.out).2.1)
         have S2a := Lib.hid (And.intro (CELLS.out _ HB2a.out).1 (CELLS.out _ HB2a.out).2.1)
         clear r2 m2')
      | (refine step_rw Tryz.eltString rfl (.tmp 38) (.tmp 40) rfl rfl R2a.out _ 1 1 (ksCells [key]) rfl rfl HSK2a.out (ksCells_one _) (by omega) HB2a.out.size ?_
         intro v3 w3 r3 m3'
         have R3 := Lib.hid r3
         have HB3 := Lib.hid (Mv.since HB2a.out R2a.out m3')
         have S3 := Lib.hid (And.intro (CELLS.out _ HB3.out).1 (CELLS.out _ HB3.out).2.1)
         clear r3 m3')
      | (refine step_rw Tryz.eltString rfl (.tmp 41) (.tmp 45) rfl rfl R3.out Ab m cb (ksCells b.1) rfl (by rw [ksCells_len, HM.out]) (by exact (TB.out.below HB3.out).1) (ksCells_one _) (by omega) HB3.out.size ?_
         intro v4 w4 r4 m4'
         rw [← HKC.out] at r4
         have R4 := Lib.hid r4
         have HB4 := Lib.hid (Mv.since HB3.out R3.out m4')
         have S4 := Lib.hid (And.intro (CELLS.out _ HB4.out).1 (CELLS.out _ HB4.out).2.1)
         clear r4 m4')
      | fail)
    all_goals
      go_wp2_with fail
      go_meet
      case rel => exact ⟨R4, HB4⟩
  case rest =>
    obtain ⟨HR11, HBC⟩ := hcut
    obtain ⟨wd, hwd, HR, HBD⟩ : ∃ x, x = wc ∧ Hid (Rw 9 1 x w1.heap.size u11 (n + 1 + m) (ksCells (a.1 ++ key :: b.1))) ∧ Hid (Below w1.heap.size w1 x) := ⟨wc, rfl, HR11, HBC⟩
    clear HR11 HBC
    subst hwd
    obtain ⟨A1, k1, e1, hk1, ht1, _⟩ := HR.out.tsrc
    subst e1
    have HT1 := Lib.hid ht1
    have CL := Lib.hid (fun (W : World) (hW : Below wd.heap.size wd W) => CELLS.out W (HBD.out.trans (hW.mono HBD.out.size)))
    obtain ⟨c0, d0, c1, d1⟩ := CL.out wd (Below.refl _ _)
    have T0 := Lib.hid (show wd.cell? ⟨pa, 1, none⟩ = some (.slice Ra (n + 1) da) ∧ wd.cell? ⟨pb, 1, none⟩ = some (.slice Rb (m + 1) db) from ⟨c1, d1⟩)
    have UA2 := Lib.hid (UA.out.below HBD.out)
    have UB2 := Lib.hid (UB.out.below HBD.out)
    have HXD := Lib.hid (HX.out.below HBD.out HX.out.lt)
    have BAD := Lib.hid (BA.out.below HBD.out BA.out.lt)
    have BBD := Lib.hid (BB.out.below HBD.out BB.out.lt)
    have RQ : Hid (Rw 156 1 wd.drew wd.heap.size (.slice none 0 0) 0 []) := Rw.nil _ _
    clear ht1 S0 S1 HL1 RN RN0 HSK HBK
    go_wp2_with fail
    go_region_held3 (fun W : World => W.cell? ⟨pa, 1, none⟩ = some (.slice Ra (n + 1) da) ∧ W.cell? ⟨pb, 1, none⟩ = some (.slice Rb (m + 1) db)) (first | exact T0.out | exact T1.out | exact T2.out | exact T3.out | exact T4.out _ _) (first
      | (refine step_rw Tryz.eltRef rfl (.const (.slice none 0 0)) (.tmp 51) rfl rfl RQ.out Ra (n + 1) da (refsCells ra) rfl (by rw [refsCells_len, HRN.out]) (by exact UA2.out.1) (refsCells_one _) (by omega) (by exact Nat.le_refl _) ?_
         intro v2 w2 r2 m2'
         rw [Nat.zero_add, List.nil_append] at r2
         have R2 := Lib.hid r2
         have M2 : Hid (Mv wd w2 (.slice none 0 0) v2) := Mv.beforeR (base := 0) (n := 0) (cs := []) ((Below.refl wd.heap.size wd).drew) m2'
         have HB2 := Lib.hid (Mv.fresh M2.out)
         have T1 := Lib.hid (And.intro (CL.out _ HB2.out).2.2.1 (CL.out _ HB2.out).2.2.2)
         clear r2 m2')
      | (refine step_rw Tryz.eltRef rfl (.tmp 52) (.tmp 56) rfl rfl R2.out Rb (m + 1) db (refsCells rb) rfl (by rw [refsCells_len, HRM.out]) (by exact (UB2.out.below HB2.out).1) (refsCells_one _) (by omega) HB2.out.size ?_
         intro v3 w3 r3 m3'
         have HB3 := Lib.hid (Mv.since HB2.out R2.out m3')
         have T2 := Lib.hid (And.intro (CL.out _ HB3.out).2.2.1 (CL.out _ HB3.out).2.2.2)
         rw [← refsCells_append] at r3
         have HIV : Hid (∃ A2 k2, v3 = .slice A2 (n + 1 + (m + 1)) k2 ∧ Calls Tryz.prog 186 #[.slice A1 (n + 1 + m) k1, .slice A2 (n + 1 + (m + 1)) k2] w3 fun e w' => ∃ rv, e = .returned rv ∧ RowAt w' G (h + 1) rv (Pl.together (h + 1) a key b) ∧ Below w3.heap.size w3 w') := by
           obtain ⟨A2, k2, e2, hk2, h3, _⟩ := r3.tsrc
           exact ⟨A2, k2, e2, HIN.out A1 A2 k1 k2 w3 (HT1.out.below HB3.out) h3 hk1 hk2⟩
         clear r3 m3')
      | (go_at_call 186
         obtain ⟨A2, k2, rfl, HCC⟩ := HIV.out
         refine HCC.mono ?_
         rintro e w4 ⟨rv, rfl, hrow, hb4⟩
         have HRW := Lib.hid hrow
         obtain ⟨Ak, ck, Ap, cp, vs, rfl, _⟩ := hrow
         have HB4 := Lib.hid (HB3.out.trans (hb4.mono HB3.out.size))
         have HX4 := Lib.hid (HXD.out.below HB4.out HXD.out.lt)
         have T3 := Lib.hid (And.intro (CL.out _ HB4.out).2.2.1 (CL.out _ HB4.out).2.2.2)
         have BA4 := Lib.hid (BAD.out.below HB4.out BAD.out.lt)
         have BB4 := Lib.hid (BBD.out.below HB4.out BBD.out.lt)
         have T4 := Lib.hid (fun (u0 u1 : Value) => (show ((w4.setCell ⟨gx, 0, none⟩ u0).setCell ⟨gx, 1, none⟩ u1).cell? ⟨pa, 1, none⟩ = some (.slice Ra (n + 1) da) ∧ ((w4.setCell ⟨gx, 0, none⟩ u0).setCell ⟨gx, 1, none⟩ u1).cell? ⟨pb, 1, none⟩ = some (.slice Rb (m + 1) db) from
           ⟨by have := (facts2 ((BA4.out.far (p := ⟨gx, 0, none⟩) (BA4.out.ne HX4.out (by decide)) u0).far (p := ⟨gx, 1, none⟩) (BA4.out.ne HX4.out (by decide)) u1)).2.1; rw [HRN.out] at this; exact this,
            by have := (facts2 ((BB4.out.far (p := ⟨gx, 0, none⟩) (BB4.out.ne HX4.out (by decide)) u0).far (p := ⟨gx, 1, none⟩) (BB4.out.ne HX4.out (by decide)) u1)).2.1; rw [HRM.out] at this; exact this⟩))
         obtain ⟨x0, x1, y0, y1⟩ := facts2 HX4.out
         clear hb4)
      | fail)
    go_wp2_with fail
    have hbel := row_below (HB1.out.trans ((HBD.out.trans (HB4.out.mono HBD.out.size)).mono HB1.out.size)) HGX.out (Value.slice Ak (Pl.together (h + 1) a key b).snd.length ck) (Value.slice Ap (Pl.together (h + 1) a key b).fst.length cp)
    exact bodyPost_ret (v := .agg #[_, _]) (results_row rfl rfl ((HX4.out.set_ 0 _).set_ 1 _)) rfl ⟨_, rfl, row_done HX4.out HRW.out, by first | exact hbel.1 | exact hbel.2⟩
end Go.Proofs.YtljmklohgpaopaaGreatDoor

namespace Go.Proofs.YtljmklohgpaopaaGreatDoor
open Go.RowKit
set_option linter.unusedSectionVars false
variable [Inhabited LoT]

theorem TFr.since {F : Nat → Prop} {w a b : World} (h : TFr w a) (k : Only F a b) (hF : ∀ x, x < w.heap.size → ¬ F x) : TFr w b := by
  have hb : Below w.heap.size a b := k.toBelow h.size hF
  obtain ⟨F', h1, h2⟩ := h.only
  refine ⟨⟨F', ⟨hb.os.trans h1.os, hb.tape.trans h1.tape, hb.output.trans h1.output, Nat.le_trans h1.size hb.size, fun i hi hn => (hb.block i hi).trans (h1.block i hi hn)⟩, h2⟩, fun r x v hr => ?_, fun p s hs hc => (hb.cell (World.block_lt_of_cell? _ _ hc)).trans (h.ev p s hs hc), ⟨hb.os.trans h.low.os, hb.tape.trans h.low.tape, hb.output.trans h.low.output, Nat.le_trans h.low.size hb.size, fun i hi hn => (hb.block i hi).trans (h.low.block i hi hn)⟩⟩
  obtain ⟨v', h3, h4⟩ := h.refs r x v hr
  exact ⟨v', h3.below hb hr.lt, h4⟩
theorem small_any (h : Nat) (t : Pl.Tr h) (v : Value) (w : World) (G : Gh) (hp : PgOk w G v h t none) (hsz : Pl.pgsz h t ≤ 1000) :
    Calls Tryz.prog 184 #[v] w fun e w' => e = .returned (.bool (decide (Pl.pgsz h t < 85))) ∧ Below w.heap.size w w' := by
  cases h with
  | zero =>
    obtain ⟨b, rfl, h1⟩ := hp
    exact small_leaf b t w h1 hsz
  | succ h =>
    obtain ⟨rs, ⟨b, rfl, h1⟩, _⟩ := hp
    exact (small_inner b t.1 rs w h1 hsz).mono fun e w' ⟨h1, h2⟩ => ⟨h1, h2 ▸ Below.refl _ _⟩
theorem Pl.Becomes.size {h : Nat} {r : Pl.Row h} (hr : Pl.Becomes h r) : ∀ t ∈ r.1, Pl.pgsz h t ≤ 256 := by
  intro t ht
  rcases hr with ⟨_, _, h3⟩ | ⟨_, t', h2, h3⟩
  · exact Pl.Fit.size h t (h3 t ht)
  · rw [h2] at ht
    rw [List.mem_singleton.1 ht]
    exact Nat.le_of_lt (Nat.lt_trans (Pl.OneKid.small h t' h3) (by omega))
theorem lone_one {h : Nat} {r : Pl.Row h} {t : Pl.Tr h} (hr : r.1 = [t]) : Pl.lone r = if Pl.pgsz h t < 85 then some t else none := by unfold Pl.lone; rw [hr]
theorem lone_many {h : Nat} {r : Pl.Row h} (hr : r.1.length ≠ 1) : Pl.lone r = none := by
  unfold Pl.lone
  split
  · next x hx => rw [hx] at hr; simp at hr
  · rfl
/-- Together, of either kind. -/
theorem together_any (h : Nat) (a b : Pl.Tr h) (key : Pl.Key) (va vb : Value) (w : World) (G : Gh) (ha : PgOk w G va h a none) (hb : PgOk w G vb h b none) (fa : Pl.Half h a) (fb : Pl.Half h b) (hk : Pl.KeyFit key) (hs : Pl.pgsz h a + Pl.pgsz h b ≤ 256 + 85) :
    Calls Tryz.prog 185 #[va, .string (tstr key), vb] w fun e w' => ∃ rv, e = .returned rv ∧ RowAt w' G h rv (Pl.together h a key b) ∧ Below w.heap.size w w' := by
  cases h with
  | zero => exact together_leaf a b key va vb w G ha hb (by have : Pl.lsz a + Pl.lsz b ≤ 256 + 85 := hs; omega)
  | succ h =>
    obtain ⟨a1, a2, a3, a4⟩ := fa.inner
    obtain ⟨b1, b2, b3, b4⟩ := fb.inner
    exact together_inner h a b key va vb w G ha hb hs hk (fun k hk => (a3 k hk).2) (fun k hk => (b3 k hk).2) a1 b1
theorem DiskAt.only_ {F : Nat → Prop} {w w' : World} {g : Nat} {v : Value} {d : Pl.Dk} {rd : Int} {ts : List TypeId} (h : DiskAt w g v d rd) (ho : Only F w w') (hF : Kinds F w ts) (h1 : 102 ∉ ts) (h2 : 104 ∉ ts) : DiskAt w' g v d rd := h.only ho fun k hk hf => by
  obtain ⟨t, k1, k2⟩ := h.kinds k hk
  obtain ⟨t', k3, k4⟩ := hF k hf
  obtain rfl := k2.uniq k4
  simp only [List.mem_cons, List.not_mem_nil, or_false] at k1
  rcases k1 with rfl | rfl
  · exact h1 k3
  · exact h2 k3
theorem TW.only {F : Nat → Prop} {E : TEnv} {w w' : World} {rd : Int} {G : Gh} {ts : List TypeId} (h : TW E w rd G) (ho : Only F w w') (hF : Kinds F w ts) (h1 : 158 ∉ ts) (h2 : 168 ∉ ts) (h3 : ∀ t ∈ pageTypes, t ∉ ts) (h4 : 102 ∉ ts) (h5 : 104 ∉ ts) : TW E w' rd G :=
  ⟨ho.blk_ hF h.tree h1, h.disk.only_ ho hF h4 h5, h.inv.only ho hF h2 h3, h.room, h.low⟩
theorem Made.only {F : Nat → Prop} {w0 w w' : World} {vs : List Value} {k : Nat} {rs : List Nat} {ts : List TypeId} (h : Made w0 w vs k rs) (ho : Only F w w') (hF : Kinds F w ts) (ht : 168 ∉ ts) : Made w0 w' vs k rs :=
  ⟨h.1, h.2.1, fun r hr => ⟨(h.2.2.1 r hr).1, Nat.lt_of_lt_of_le (h.2.2.1 r hr).2 ho.size⟩, fun i r v h1 h2 => ho.blk_ hF (h.2.2.2 i r v h1 h2) ht⟩
theorem Made.low {w0 w1 w : World} {vs : List Value} {k : Nat} {rs : List Nat} (h : Made w1 w vs k rs) (hl : w0.heap.size ≤ w1.heap.size) : Made w0 w vs k rs :=
  ⟨h.1, h.2.1, fun r hr => ⟨Nat.le_trans hl (h.2.2.1 r hr).1, (h.2.2.1 r hr).2⟩, h.2.2.2⟩
theorem spliced_bounds {h : Nat} {ks : List Pl.Key} {cs : List (Pl.Tr h)} {i a b : Nat} {r r' : Pl.Row h} (hl : cs.length = ks.length + 1) (hi : i ≤ ks.length) (h : (a, b, r') = Pl.spliced ks cs i r) : a + 1 ≤ b ∧ b ≤ ks.length + 1 := by
  unfold Pl.spliced at h
  split at h
  · injection h with h1 h2; injection h2 with h2 h3; subst h1 h2; omega
  · split at h
    · split at h
      · injection h with h1 h2; injection h2 with h2 h3; subst h1 h2; omega
      · injection h with h1 h2; injection h2 with h2 h3; subst h1 h2; omega
    · split at h
      · next hx hk =>
        have := (List.getElem?_eq_some_iff.1 hx).1
        injection h with h1 h2; injection h2 with h2 h3; subst h1 h2; omega
      · injection h with h1 h2; injection h2 with h2 h3; subst h1 h2; omega
theorem replaced_eq {h : Nat} {ks : List Pl.Key} {cs : List (Pl.Tr h)} {i a b : Nat} {r r' : Pl.Row h} (hs : (a, b, r') = Pl.spliced ks cs i r) :
    Pl.replaced ks cs i r = if ks.take a ++ r'.2 ++ ks.drop (b - 1) = [] then ([(([] : List Pl.Key), cs.take a ++ r'.1 ++ cs.drop b)], []) else Pl.innerRow (ks.take a ++ r'.2 ++ ks.drop (b - 1)) (cs.take a ++ r'.1 ++ cs.drop b) := by
  unfold Pl.replaced
  rw [← hs]
  rfl
/-- What the parted lists hold, taken from those that were there. -/
theorem spliced_row {h : Nat} {ks : List Pl.Key} {cs : List (Pl.Tr h)} {i a b : Nat} {r r' : Pl.Row h} (hn : Pl.Fit (h + 1) ((ks, cs) : List Pl.Key × List (Pl.Tr h))) (hi : i ≤ ks.length) (hb : Pl.Becomes h r) (hc : r.2.length ≤ 3) (hs : (a, b, r') = Pl.spliced ks cs i r) :
    (∀ k ∈ ks.take a ++ r'.2 ++ ks.drop (b - 1), Pl.KeyFit k) ∧ Pl.isz (ks.take a ++ r'.2 ++ ks.drop (b - 1)) ≤ 420 ∧ r'.1.length = r'.2.length + 1 ∧ r'.2.length ≤ 3 := by
  have hl : cs.length = ks.length + 1 := hn.1
  have key : Pl.RowFit h r' ∧ r'.2.length ≤ 3 := by
    unfold Pl.spliced at hs
    split at hs
    · next h0 =>
      injection hs with h1 h2; injection h2 with h2 h3; subst h3
      exact ⟨Pl.lone_none hb h0, hc⟩
    · next pg h0 =>
      obtain ⟨hh, h85⟩ := Pl.lone_small hb h0
      split at hs
      · next hi0 =>
        split at hs
        · next left key hx hk =>
          injection hs with h1 h2; injection h2 with h2 h3; subst h3
          have hfl := hn.2.2.2.2 left (List.mem_of_getElem? hx)
          have hsz : Pl.pgsz h left + Pl.pgsz h pg ≤ 256 + 85 := by have := Pl.Fit.size h left hfl; omega
          exact ⟨Pl.together_fit h left key pg (.inl hfl) hh (.inl hfl) (hn.2.2.2.1 key (List.mem_of_getElem? hk)) hsz, Pl.together_few h left key pg (.inl hfl) hh hsz⟩
        · next hno =>
          exact (hno _ _ (List.getElem?_eq_getElem (show i - 1 < cs.length by omega)) (List.getElem?_eq_getElem (show i - 1 < ks.length by omega))).elim
      · next hi0 =>
        split at hs
        · next nx key hx hk =>
          injection hs with h1 h2; injection h2 with h2 h3; subst h3
          have hfl := hn.2.2.2.2 nx (List.mem_of_getElem? hx)
          have hsz : Pl.pgsz h pg + Pl.pgsz h nx ≤ 256 + 85 := by have := Pl.Fit.size h nx hfl; omega
          exact ⟨Pl.together_fit h pg key nx hh (.inl hfl) (.inr hfl) (hn.2.2.2.1 key (List.mem_of_getElem? hk)) hsz, Pl.together_few h pg key nx hh (.inl hfl) hsz⟩
        · next hno =>
          have h0 : 0 < ks.length := List.length_pos_iff.2 hn.2.1
          exact (hno _ _ (List.getElem?_eq_getElem (show i + 1 < cs.length by omega)) (List.getElem?_eq_getElem (show i < ks.length by omega))).elim
  obtain ⟨b1, b2⟩ := spliced_bounds hl hi hs
  obtain ⟨k1, k2⟩ := Pl.splice_keys hn key.1 key.2 b1
  exact ⟨k1, k2, key.1.1, key.2⟩
theorem set2_only (w : World) (g : Nat) (u0 u1 : Value) : Only (· = g) w ((w.setCell ⟨g, 0, none⟩ u0).setCell ⟨g, 1, none⟩ u1) := ((Only.refl (· = g) w).setCell (p := ⟨g, 0, none⟩) (.inl rfl) _).setCell (p := ⟨g, 1, none⟩) (.inl rfl) _
end Go.Proofs.YtljmklohgpaopaaGreatDoor
