/- A tree's pages: an inner one's text. Lists that a call owns, of whatever elements: laws over any program. A tree's pages: the reader; lists that a call owns. A tree's pages: a leaf is read. -/
import Derived.Test.YtljmklohgpaopaaGreatDoorMgPlanted7
import Derived.Test.YtljmklohgpaopaaGreatDoorMgPlanted6
set_option linter.unusedVariables false
set_option linter.unusedSimpArgs false

namespace Go.Proofs.YtljmklohgpaopaaGreatDoor
open Go.RowKit

/-- What refs tell: their sectors. -/
def AtsAre (w : World) (rs ats : List Nat) : Prop := rs.length = ats.length ∧ ∀ (i r a : Nat), rs[i]? = some r → ats[i]? = some a → ∃ pv, Blk w r 168 [.int .i64 (a : Nat), pv]
theorem AtsAre.below {w w' : World} {rs ats : List Nat} (h : AtsAre w rs ats) (hb : Below w.heap.size w w') : AtsAre w' rs ats :=
  ⟨h.1, fun i r a h1 h2 => by obtain ⟨pv, hv⟩ := h.2 i r a h1 h2; exact ⟨pv, hv.below hb hv.lt⟩⟩
theorem InnerAt.refs {w : World} {b : Nat} {ks : List Pl.Key} {rs : List Nat} (h : InnerAt w b ks rs) : ∃ A cap A' cap', Blk w b 185 [.slice A ks.length cap, .slice A' rs.length cap'] ∧ Src w A (ksCells ks) ∧ Src w A' (refsCells rs) := by
  obtain ⟨A, cap, A', cap', hb, hc, hc', hs, hs'⟩ := h
  exact ⟨A, cap, A', cap', hb, hs.1, hs'.1⟩
theorem encKids_len (xs : List (Pl.Key × Nat)) : (xs.flatMap Pl.encKid).length + 6 = Pl.isz (xs.map Prod.fst) := by
  induction xs with
  | nil => rfl
  | cons a r ih =>
    rw [List.flatMap_cons, List.length_append, List.map_cons, Pl.isz_cons]
    simp [Pl.encKid, Pl.short, Pl.be_length] at ih ⊢
    omega
set_option maxRecDepth 100000 in
set_option maxHeartbeats 2000000 in
theorem itext_any (b : Nat) (ks : List Pl.Key) (rs ats : List Nat) (w : World) (h : InnerAt w b ks rs) (hsz : Pl.isz ks ≤ 1000) (hp : ∀ k ∈ ks, k.length < 256) (hn : ks.length < 256) (hl : rs.length = ks.length + 1) (ha : AtsAre w rs ats) (hat : ∀ a ∈ ats, a ≤ 4096) :
    Calls Tryz.prog 217 #[.pointer (some ⟨b, 0, none⟩)] w fun e w' => e = .returned (.string (tstr (Pl.innerText ks ats))) ∧ Below w.heap.size w w' := by
  obtain ⟨i0, hi, hz0, hz1, hz2⟩ := info_parts Tryz.infoByte
  obtain ⟨A, cap, A', cap', hb, hs, hs'⟩ := h.refs
  obtain ⟨n, hn'⟩ : ∃ n, ks.length = n := ⟨_, rfl⟩
  rw [hn'] at hn hl
  obtain ⟨w0, hw0⟩ : ∃ w0, w.alloc (.cells #[.int .u8 105] 5 (1, 2)) = w0 := ⟨_, rfl⟩
  have hb0 : Below w.heap.size w w0 := by rw [← hw0]; exact (Below.refl _ _).alloc (Nat.le_refl _) _
  have hrd : Ready w0 w.heap.size 5 1 (.slice (some ⟨w.heap.size, 0, none⟩) 1 1) 1 (bv [105]) := by rw [← hw0]; exact ready_lit w 105 (by omega)
  have hm := run_mark (P := Tryz.prog) w 25 5 #[.int .u8 105] 1 Tryz.underlying25 Tryz.underlying5 rfl
  rw [hw0] at hm
  have wn := wrap_u8 hn
  have H1 := Lib.hid (hrd.alloc (.cells #[.int .u8 (n : Int)] 5))
  have H2 := Lib.hid (src_one w0 n hn)
  have HN := Lib.hid hn'
  have HS := Lib.hid hs
  have HS' := Lib.hid hs'
  have HSZ := Lib.hid hsz
  have HP := Lib.hid hp
  have HB0 := Lib.hid hb0
  have HBLK := Lib.hid hb
  have HA := Lib.hid ha
  have HAT := Lib.hid hat
  have hb' := hb.below hb0 hb.lt
  obtain ⟨c0, c1, _, _⟩ := facts2 hb'
  rw [hn'] at c0
  rw [hl] at c1
  have HLL := Lib.hid hl
  have hbw1 := Lib.hid (hb0.trans ((Below.refl w0.heap.size w0).alloc (Nat.le_refl _) (.cells #[.int .u8 (n : Int)] 5) |>.mono hb0.size))
  obtain ⟨r0, hr0⟩ : ∃ r, rs[0]? = some r := ⟨_, List.getElem?_eq_getElem (by omega)⟩
  obtain ⟨a0, ha0⟩ : ∃ a, ats[0]? = some a := ⟨_, List.getElem?_eq_getElem (by have := ha.1; omega)⟩
  have ha0b := hat a0 (List.mem_of_getElem? ha0)
  obtain ⟨bk, ok, rfl, _⟩ := hs'.at_ 0 _ (refs_at hr0)
  have HR0 := Lib.hid hr0
  have HA0 := Lib.hid ha0
  clear hr0 ha0
  have HX := Lib.hid hb0.size
  clear hs hs' hb hb' hsz hp hrd hb0 ha hat h hn' hl
  go_enter Tryz.func217, Tryz.ntmps217
  go_wp2_with (first
    | (at_builtin
       refine wpList_append_ready _ rfl (.tmp 7) (.tmp 14) 25 rfl w.heap.size 5 i0 (.int .u8 0) 1 1 Tryz.underlying25 hi hz0 hz1 hz2 rfl (by decide) (.slice (some ⟨w.heap.size, 0, none⟩) 1 1) 1 _ rfl H1.out (some ⟨w0.heap.size, 0, none⟩) 1 1 (bv [UInt8.ofNat n]) rfl rfl H2.out (bv_one _) (by omega) (by simp [maxLen]) (byte_room (by omega)) (Nat.le_trans HX.out (by simp)) ?_
       intro v1 w1 hown1 hb1 hk1 hat1
       have HB1 := Lib.hid (hbw1.out.trans hb1)
       have ho1 : Ob w1 w.heap.size v1 [105, UInt8.ofNat n] := hown1
       have HO1 := Lib.hid ho1
       have HBLK1 := Lib.hid (HBLK.out.below HB1.out HBLK.out.lt)
       obtain ⟨e0, e1, _, _⟩ := facts2 HBLK1.out
       rw [HN.out] at e0
       rw [HLL.out] at e1
       have e2 := (HS'.out.below HB1.out).cell _ _ (refs_at HR0.out)
       unfold refV at e2
       rw [Nat.add_zero] at e2
       obtain ⟨pv0, HV0⟩ := (HA.out.below HB1.out).2 0 r0 a0 HR0.out HA0.out
       obtain ⟨e3, _, _, _⟩ := facts2 HV0
       have hg0 : 0 < n + 1 := by omega
       have HPUT := Lib.hid (put_ob v1 [105, UInt8.ofNat n] a0 4 w.heap.size w1 HO1.out (Nat.le_trans HX.out (by have := hb1.size; simp at this; omega)) (by omega) (by omega) (by omega) (by simp))
       clear hown1 hb1 hk1 hat1 ho1 HV0 c0 c1)
    | fail)
  refine HPUT.out.mono ?_
  rintro e w2 ⟨v2, rfl, o2, m2⟩
  have HB2 := Lib.hid (HB1.out.trans ((m2.belowB HO1.out (HB1.out.size)).mono (Nat.le_refl _)))
  obtain ⟨l0, hl0⟩ : ∃ l0, ([105, UInt8.ofNat n] ++ Pl.be 4 a0 : List UInt8) = l0 := ⟨_, rfl⟩
  rw [hl0] at o2
  have HL0 : Hid (l0.length = 6) := by rw [Hid, ← hl0]; simp [Pl.be_length]
  have HL00 := Lib.hid hl0
  have HO2 := Lib.hid o2
  obtain ⟨c0, _, _, _⟩ := facts2 (HBLK.out.below HB2.out HBLK.out.lt)
  rw [HN.out] at c0
  clear o2 m2 hl0 e0 e1 e2 e3 HO1 HB1 HPUT HBLK1
  obtain ⟨bs, hbs⟩ : ∃ bs, w.heap.size = bs := ⟨_, rfl⟩
  rw [hbs] at HO2
  have HBS := Lib.hid hbs
  clear hbs
  go_wp2_with fail
  go_loopw [3, 33] (fun u i wr => ∃ k : Nat, k ≤ n ∧ i = .int .i64 (k : Int) ∧ Hid (Ob wr bs u (l0 ++ ((ks.zip (ats.drop 1)).take k).flatMap Pl.encKid)) ∧ Hid (Below w.heap.size w wr)) (fun _ i _ => n - (intOf i).toNat)
  case atStart => exact ⟨0, Nat.zero_le _, rfl, (by simpa [Hid] using HO2.out : Hid _), HB2⟩
  case round =>
    obtain ⟨k, hk, rfl, HO, HM⟩ := hrel
    by_cases hkn : k < n
    · have q1 : (k : Int) < (n : Int) := by omega
      obtain ⟨x, hx⟩ : ∃ p, ks[k]? = some p := ⟨_, List.getElem?_eq_getElem (by rw [HN.out]; exact hkn)⟩
      obtain ⟨r, hr⟩ : ∃ r, rs[k + 1]? = some r := ⟨_, List.getElem?_eq_getElem (by rw [HLL.out]; omega)⟩
      obtain ⟨a, ha⟩ : ∃ a, ats[k + 1]? = some a := ⟨_, List.getElem?_eq_getElem (by have := HA.out.1; have := HLL.out; omega)⟩
      have hab := HAT.out a (List.mem_of_getElem? ha)
      have hxb := HP.out x (List.mem_of_getElem? hx)
      obtain ⟨b2, off, rfl, g0⟩ := (HS.out.below HM.out).at_ _ _ (ks_at hx)
      have hz : Hid ((ks.zip (ats.drop 1))[k]? = some (x, a)) := by
        rw [Hid, List.getElem?_zip_eq_some]
        exact ⟨hx, by rw [List.getElem?_drop, Nat.add_comm]; exact ha⟩
      have hlen : Hid ((l0 ++ ((ks.zip (ats.drop 1)).take k).flatMap Pl.encKid).length ≤ 1000) := by
        have h1 := encKids_len ((ks.zip (ats.drop 1)).take k)
        have h2 := isz_take_le ks k
        have h3 := HSZ.out
        have h4 := HL0.out
        have h5 : ((ks.zip (ats.drop 1)).take k).map Prod.fst = ks.take k := by
          rw [List.map_take, List.map_fst_zip (by rw [List.length_drop]; have := HA.out.1; have := HLL.out; have := HN.out; omega)]
        rw [h5] at h1
        rw [Hid, List.length_append]
        omega
      obtain ⟨lk, hlk⟩ : ∃ y, l0 ++ ((ks.zip (ats.drop 1)).take k).flatMap Pl.encKid = y := ⟨_, rfl⟩
      rw [hlk] at HO hlen
      have HLK := Lib.hid hlk
      have hk1 : (tstr x).size = x.length := tstr_size x
      obtain ⟨kn, hkn'⟩ : ∃ m, x.length = m := ⟨_, rfl⟩
      rw [hkn'] at hk1 hxb
      have wk := wrap_u8 hxb
      have KN := Lib.hid hkn'
      have HR := Lib.hid hr
      have HAA := Lib.hid ha
      have K1 := Lib.hid (HO.out.alloc (.cells #[.int .u8 (kn : Int)] 5))
      have K2 := Lib.hid (src_one wr kn hxb)
      have hbase : Hid (bs ≤ wr.heap.size) := by have := HM.out.size; have := HBS.out; rw [Hid]; omega
      have MA := Lib.hid ((Mv.refl wr u3).alloc (.cells #[.int .u8 (kn : Int)] 5))
      clear hx hr ha hlk hkn' c0
      go_wp2_with (first
        | (at_builtin
           refine wpList_ob rfl (.tmp 38) (.tmp 42) rfl rfl K1.out (some ⟨wr.heap.size, 0, none⟩) 1 1 [UInt8.ofNat kn] rfl rfl K2.out (by have := hlen.out; omega) (Nat.le_trans hbase.out (by simp)) ?_
           intro v4 w4 o4 m4
           have O4 := Lib.hid o4
           have M4 := Lib.hid (MA.out.trans m4)
           clear o4 m4)
        | (at_builtin
           refine wpList_obs rfl (.tmp 43) (.tmp 44) rfl rfl O4.out x rfl (by have := hlen.out; have := KN.out; rw [List.length_append, List.length_singleton]; omega) (Nat.le_trans hbase.out M4.out.1.size) ?_
           intro v5 w5 o5 m5
           have O5 := Lib.hid o5
           have M5 := Lib.hid (M4.out.trans m5)
           have HB5 := Lib.hid (HM.out.trans ((M5.out.belowB HO.out hbase.out).mono (by have := HBS.out; omega)))
           have HBLK5 := HBLK.out.below HB5.out HBLK.out.lt
           obtain ⟨e0, e1, _, _⟩ := facts2 HBLK5
           rw [HN.out] at e0
           rw [HLL.out] at e1
           have e2 := (HS'.out.below HB5.out).cell _ _ (refs_at HR.out)
           unfold refV at e2
           obtain ⟨pv0, HV0⟩ := (HA.out.below HB5.out).2 (k + 1) r a HR.out HAA.out
           obtain ⟨e3, _, _, _⟩ := facts2 HV0
           have HPUT := Lib.hid (put_ob v5 _ a 4 bs w5 O5.out (Nat.le_trans hbase.out M5.out.1.size) (by omega) (by omega) (by omega) (by have := hlen.out; have := KN.out; simp only [List.length_append, List.length_singleton]; omega))
           clear o5 m5 HV0 HBLK5)
        | fail)
      refine HPUT.out.mono ?_
      rintro e w6 ⟨v6, rfl, o6, m6⟩
      have O6 : Hid (Ob w6 bs v6 (l0 ++ ((ks.zip (ats.drop 1)).take (k + 1)).flatMap Pl.encKid)) := by
        have e : lk ++ [UInt8.ofNat kn] ++ x ++ Pl.be 4 a = l0 ++ ((ks.zip (ats.drop 1)).take (k + 1)).flatMap Pl.encKid := by
          rw [flat_succ _ hz.out, ← List.append_assoc, HLK.out]
          unfold Pl.encKid Pl.short
          rw [KN.out]
          simp
        rw [Hid, ← e]
        exact o6
      have M6 := Lib.hid (M5.out.trans m6)
      have HB6 := Lib.hid (HM.out.trans ((M6.out.belowB HO.out hbase.out).mono (by have := HBS.out; omega)))
      clear o6 m6 e0 e1 e2 e3
      go_wp2_with fail
      exact ⟨⟨k + 1, by omega, by go_num, O6, HB6⟩, by simp [intOf]; omega⟩
    · obtain rfl : k = n := by omega
      have HO3 : Hid (Ob wr bs u3 (Pl.innerText ks ats)) := by
        have := HO.out
        rw [List.take_of_length_le (by rw [List.length_zip]; have := HN.out; omega)] at this
        rw [Hid]
        unfold Pl.innerText
        have e : ats.headD 0 = a0 := by
          have := HA0.out
          cases ats with
          | nil => simp at this
          | cons z zs => simpa using this
        rw [HN.out, e, ← List.cons_append, ← List.cons_append]
        rw [← HL00.out] at this
        exact this
      obtain ⟨A3, cap3, e3, hc3, hb3, _⟩ := HO3.out.bytes
      have HCV := run_tostr wr A3 (Pl.innerText ks ats) cap3 hb3
      subst e3
      have hle : Hid ((Pl.innerText ks ats).length ≤ 1000) := by
        have h1 := encKids_len (ks.zip (ats.drop 1))
        have h5 : (ks.zip (ats.drop 1)).map Prod.fst = ks := List.map_fst_zip (by rw [List.length_drop]; have := HA.out.1; have := HLL.out; have := HN.out; omega)
        rw [h5] at h1
        rw [Hid]
        unfold Pl.innerText
        rw [List.length_cons, List.length_cons, List.length_append, Pl.be_length]
        have := HSZ.out
        omega
      clear HO HO3 hb3 hc3
      go_wp2_with fail
      go_ret
      exact ⟨rfl, HM.out⟩
end Go.Proofs.YtljmklohgpaopaaGreatDoor

namespace Go.Proofs.YtljmklohgpaopaaGreatDoor
open Go.RowKit

section
variable {α : Type} {e : TypeId} {s : Nat} {R : World → (Nat → Prop) → List Value → α → Prop} {w w' : World} {base : Nat} {v : Value} {xs : List α}
end
end Go.Proofs.YtljmklohgpaopaaGreatDoor

namespace Go.Proofs.YtljmklohgpaopaaGreatDoor
open Go.RowKit

/-- A reader of a sector: what is left, and is it bad? -/
def RdT (w : World) (g : Nat) (l : List UInt8) (bad : Bool) : Prop := l.length ≤ 140737488351232 ∧ Blk w g 286 [.string (tstr l), .bool bad]
theorem RdT.below {w w' : World} {g : Nat} {l : List UInt8} {bad : Bool} (h : RdT w g l bad) (hb : Below w.heap.size w w') : RdT w' g l bad := ⟨h.1, h.2.below hb h.2.lt⟩

set_option maxHeartbeats 1000000 in
theorem rtake_any (g n : Nat) (l : List UInt8) (bad : Bool) (w : World) (h : RdT w g l bad) (hn : n ≤ l.length) :
    Calls Tryz.prog 162 #[.pointer (some ⟨g, 0, none⟩), .int .i64 n] w fun e w' => e = .returned (.string (tstr (l.take n))) ∧ RdT w' g (l.drop n) bad ∧ Only (· = g) w w' := by
  obtain ⟨hm, hB⟩ := h
  have c0 := hB.cell 0
  have f0 := hB.frozen 0
  simp only [List.getElem?_cons_zero] at c0
  have h1 := fun w => run_str_take w l n n rfl hn
  have h2 := fun w => run_str_drop w l n n rfl hn
  have hsz := tstr_size l
  obtain ⟨st, hst⟩ : ∃ st, tstr l = st := ⟨_, rfl⟩
  rw [hst] at c0 h1 h2 hsz
  have hx1 : ¬ (st.size : Int) < n := by omega
  have hx2 : ¬ st.size < n := by omega
  have HB := Lib.hid hB
  clear hB hst hsz
  go_enter Tryz.func162, Tryz.ntmps162
  go_wp2_with fail
  go_ret
  exact ⟨rfl, ⟨by rw [List.length_drop]; omega, HB.out.set_ 0 _⟩, (Only.refl (· = g) w).setCell (p := ⟨g, 0, none⟩) (.inl rfl) _⟩
set_option maxHeartbeats 1000000 in
theorem rnum_any (g n : Nat) (l : List UInt8) (bad : Bool) (w : World) (h : RdT w g l bad) (hn : n ≤ l.length) (h7 : n ≤ 7) :
    Calls Tryz.prog 163 #[.pointer (some ⟨g, 0, none⟩), .int .i64 n] w fun e w' => e = .returned (.int .i64 (Pl.num (l.take n) : Nat)) ∧ RdT w' g (l.drop n) bad ∧ Only (· = g) w w' := by
  have H := Lib.hid (rtake_any g n l bad w h hn)
  have hlen : (l.take n).length ≤ 7 := by rw [List.length_take]; omega
  have hlt := Pl.num_lt (l.take n)
  have hlt2 : Pl.num (l.take n) < 72057594037927936 := Nat.lt_of_lt_of_le hlt (Nat.pow_le_pow_right (n := 256) (j := 7) (by decide) hlen)
  obtain ⟨x, hx⟩ : ∃ x, l.take n = x := ⟨_, rfl⟩
  rw [hx] at H hlen hlt2 ⊢
  have H2 := Lib.hid (fun W => getS_any x W (by omega))
  obtain ⟨y, hy⟩ : ∃ y, Pl.num x = y := ⟨_, rfl⟩
  rw [hy] at H2 hlt2 ⊢
  clear h hlt hx hy
  go_enter Tryz.func163, Tryz.ntmps163
  go_wp2_with fail
  refine H.out.mono ?_
  rintro e w1 ⟨rfl, r1, o1⟩
  have R1 := Lib.hid r1
  have O1 := Lib.hid o1
  clear r1 o1
  go_wp2_with fail
  refine (H2.out _).mono ?_
  rintro e w2 ⟨rfl, rfl⟩
  go_wp2_with fail
  go_ret
  exact ⟨rfl, R1.out, O1.out⟩

/-- A slice type: its element's size. -/
structure Elt (t e : TypeId) (s : Nat) : Prop where
  under : Tryz.prog.underlying t = some (.slice e)
  info : ∃ i z, Tryz.prog.info? e = some i ∧ i.zero = some z ∧ i.size = s ∧ i.bytes ≤ 64 ∧ z.cells.size = s
  pos : 0 < s
theorem Tryz.eltPair : Elt 162 175 2 := by
  obtain ⟨i, h1, h2, h3, h4⟩ := info_parts (show (Tryz.prog.info? 175).map (fun i => (i.zero, i.size, i.bytes)) = some (some (.agg #[.string ⟨#[]⟩, .string ⟨#[]⟩]), 2, 32) by kernel_rfl)
  exact ⟨Tryz.underlying162, ⟨i, _, h1, h2, h3, by omega, rfl⟩, by omega⟩
theorem Tryz.eltString : Elt 22 9 1 := by
  obtain ⟨i, h1, h2, h3, h4⟩ := info_parts (show (Tryz.prog.info? 9).map (fun i => (i.zero, i.size, i.bytes)) = some (some (.string ⟨#[]⟩), 1, 16) by kernel_rfl)
  exact ⟨Tryz.underlying22, ⟨i, _, h1, h2, h3, by omega, rfl⟩, by omega⟩
theorem Tryz.eltRef : Elt 183 156 1 := by
  obtain ⟨i, h1, h2, h3, h4⟩ := info_parts (show (Tryz.prog.info? 156).map (fun i => (i.zero, i.size, i.bytes)) = some (some (.pointer none), 1, 8) by kernel_rfl)
  exact ⟨Tryz.underlying183, ⟨i, _, h1, h2, h3, by omega, rfl⟩, by omega⟩
theorem Tryz.eltPage : Elt 240 166 1 := by
  obtain ⟨i, h1, h2, h3, h4⟩ := info_parts (show (Tryz.prog.info? 166).map (fun i => (i.zero, i.size, i.bytes)) = some (some .nilIface, 1, 16) by kernel_rfl)
  exact ⟨Tryz.underlying240, ⟨i, _, h1, h2, h3, by omega, rfl⟩, by omega⟩
/-- A list of the call's own, its elements' cells told. -/
def Rw (e : TypeId) (s : Nat) (w : World) (base : Nat) (v : Value) (n : Nat) (cs : List Value) : Prop := w.ownsRow base e s v n cs
section
variable {e : TypeId} {s : Nat} {w w' : World} {base : Nat} {v : Value} {n : Nat} {cs : List Value}
theorem Rw.nil (w : World) (base : Nat) : Rw e s w base (.slice none 0 0) 0 [] := World.ownsRow_nil _ _ _ _
theorem Rw.alloc (h : Rw e s w base v n cs) (o : Obj) : Rw e s (w.alloc o) base v n cs := World.ownsRow.alloc h o
theorem Rw.only {F : Nat → Prop} (h : Rw e s w base v n cs) (ho : Only F w w') (hv : ∀ g, v.ownBlock = some g → ¬ F g) : Rw e s w' base v n cs := ho.own h hv
theorem Rw.below (h : Rw e s w base v n cs) (k : Below w.heap.size w w') : Rw e s w' base v n cs := (Only.of_below k (fun _ => False)).own h (fun _ _ h => h)
theorem Rw.tsrc (h : Rw e s w base v n cs) : ∃ A cap, v = .slice A n cap ∧ n ≤ cap ∧ TSrc w A cs e ∧ ∀ p, A = some p → base ≤ p.block ∧ p.block < w.heap.size := by
  obtain ⟨A, cap, rfl, h3, h4, h5⟩ := own_src h
  exact ⟨A, cap, rfl, h3, ⟨h4, fun p hp => own_typ h (h5 p hp)⟩, fun p hp => h.lt _ (h5 p hp)⟩
theorem Mv.belowR {a b : World} {u x : Value} {base : Nat} {n : Nat} {cs : List Value} (h : Mv a b u x) (ho : Rw e s a base u n cs) (hb : base ≤ a.heap.size) : Below base a b := h.only.toBelow hb (fun k hk e => by have := (ho.lt k e).1; omega)
theorem Mv.beforeR {a b c : World} {u x : Value} {base : Nat} {n : Nat} {cs : List Value} (h : Below a.heap.size a b) (k : Mv b c u x) : Mv a c u x :=
  ⟨⟨k.1.os.trans h.os, k.1.tape.trans h.tape, k.1.output.trans h.output, Nat.le_trans h.size k.1.size, fun i hi hn => (k.1.block i (Nat.lt_of_lt_of_le hi h.size) hn).trans (h.block i hi)⟩, fun i hi hn => k.2 i (Nat.lt_of_lt_of_le hi h.size) hn⟩
theorem wp_rw {o : Oper} {a : Act} {K : Act → World → Prop} {Q : Exit → Act → World → Prop} {t : TypeId} (el : Elt t e s) (sl x : Operand)
    (ho : o.op = .call { callee := .builtin .append, args := #[sl, x], argTypes := #[t, t] }) (hs : a.eval sl = v) (h : Rw e s w base v n cs)
    (A : Option Addr) (m cap : Nat) (c : List Value) (hx : a.eval x = .slice A m cap) (hc : c.length = m * s) (hr : Src w A c) (h1 : ∀ u ∈ c, u.oneCell' = true)
    (hl : n + m ≤ 4294967296) (hbase : base ≤ w.heap.size)
    (hK : ∀ v' w', Rw e s w' base v' (n + m) (cs ++ c) → Mv w w' v v' → K (a.put o.dst v') w') : o.wp Tryz.prog a w K Q := by
  obtain ⟨i, z, hi, hz, hsize, hby, hzs⟩ := el.info
  refine wp_append_src w sl x t ho base e i z s i.bytes el.under hi hz hsize rfl hzs el.pos v n cs hs h A m cap c hx hc hr h1 (by simp only [maxLen]; omega) (fun old ho => ?_) hbase (fun v' w' h4 h5 h6 => hK v' w' h4 ⟨h5, fun k hk hn => ?_⟩)
  · have := nextslicecap_le54 ho
    calc Builtin.nextslicecap (n + m) old * i.bytes ≤ 6000000000 * 64 := Nat.mul_le_mul (by omega) hby
      _ ≤ _ := by omega
  · rcases h6 with e' | e'
    · rw [e']; exact hn
    · rw [e']; intro e; injection e; omega
theorem wpList_rw {ops : Array Oper} {rest : List Oper} {o : Oper} {a : Act} {Q : Exit → Act → World → Prop} {t : TypeId} (el : Elt t e s) (hgd : o.guard = none) (sl x : Operand)
    (ho : o.op = .call { callee := .builtin .append, args := #[sl, x], argTypes := #[t, t] }) (hs : a.eval sl = v) (h : Rw e s w base v n cs)
    (A : Option Addr) (m cap : Nat) (c : List Value) (hx : a.eval x = .slice A m cap) (hc : c.length = m * s) (hr : Src w A c) (h1 : ∀ u ∈ c, u.oneCell' = true)
    (hl : n + m ≤ 4294967296) (hbase : base ≤ w.heap.size)
    (hK : ∀ v' w', Rw e s w' base v' (n + m) (cs ++ c) → Mv w w' v v' → wpList Tryz.prog ops Q rest (a.put o.dst v') w') : wpList Tryz.prog ops Q (o :: rest) a w :=
  wpList_plain hgd fun _ hk => wp_rw el sl x ho hs h A m cap c hx hc hr h1 hl hbase fun v' w' h1 h2 => hk _ _ (hK v' w' h1 h2)
theorem step_rw {ops : Array Oper} {E : Prop} {o : Oper} {a : Act} {K : Act → World → Prop} {Q : Exit → Act → World → Prop} {t : TypeId} (el : Elt t e s) (hgd : o.guard = none) (sl x : Operand)
    (ho : o.op = .call { callee := .builtin .append, args := #[sl, x], argTypes := #[t, t] }) (hs : a.eval sl = v) (h : Rw e s w base v n cs)
    (A : Option Addr) (m cap : Nat) (c : List Value) (hx : a.eval x = .slice A m cap) (hc : c.length = m * s) (hr : Src w A c) (h1 : ∀ u ∈ c, u.oneCell' = true)
    (hl : n + m ≤ 4294967296) (hbase : base ≤ w.heap.size)
    (hK : ∀ v' w', Rw e s w' base v' (n + m) (cs ++ c) → Mv w w' v v' → K (a.put o.dst v') w') : if Region.wanted o (yielded ops a.tmps) = true then Oper.wp Tryz.prog o a w K Q else E := by
  rw [if_pos (by simp [Region.wanted, hgd])]
  exact wp_rw el sl x ho hs h A m cap c hx hc hr h1 hl hbase hK
end
theorem prsCells_len (ps : List Pl.Pr) : (prsCells ps).length = ps.length * 2 := by
  unfold prsCells
  induction ps with
  | nil => rfl
  | cons a r ih => rw [List.flatMap_cons, List.length_append, ih, List.length_cons]; simp [prCells]; omega
theorem prsCells_one (ps : List Pl.Pr) : ∀ u ∈ prsCells ps, u.oneCell' = true := by
  intro u hu
  obtain ⟨p, _, hp⟩ := List.mem_flatMap.1 hu
  simp only [prCells, List.mem_cons, List.not_mem_nil, or_false] at hp
  rcases hp with rfl | rfl <;> rfl
theorem prsCells_append (a b : List Pl.Pr) : prsCells (a ++ b) = prsCells a ++ prsCells b := by simp [prsCells]
theorem ksCells_one (ks : List Pl.Key) : ∀ u ∈ ksCells ks, u.oneCell' = true := by
  intro u hu
  obtain ⟨p, _, rfl⟩ := List.mem_map.1 hu
  rfl
theorem refsCells_one (rs : List Nat) : ∀ u ∈ refsCells rs, u.oneCell' = true := by
  intro u hu
  obtain ⟨p, _, rfl⟩ := List.mem_map.1 hu
  rfl
end Go.Proofs.YtljmklohgpaopaaGreatDoor

namespace Go.Proofs.YtljmklohgpaopaaGreatDoor
open Go.RowKit

theorem num_of_take {n k : Nat} (x : Nat) (r : List UInt8) (hk : n = k) (hx : x < 256 ^ k) : Pl.num ((Pl.be k x ++ r).take n) = x := by
  subst hk
  rw [List.take_left' (Pl.be_length n x), Pl.num_be _ _ hx]
theorem drop_be (k x : Nat) (r : List UInt8) : (Pl.be k x ++ r).drop k = r := List.drop_left' (Pl.be_length k x)
theorem num_of_one {x : Nat} (r : List UInt8) (hx : x < 256) : Pl.num ((UInt8.ofNat x :: r).take 1) = x := by
  simp only [List.take_succ_cons, List.take_zero]
  exact Pl.num_ofNat hx
theorem src_pair (w : World) (p : Pl.Pr) : Src (w.alloc (.cells #[.string (tstr p.key), .string (tstr p.val)] 175)) (some ⟨w.heap.size, 0, none⟩) (prCells p) := Src.of_blk (Blk.new w 175 _)
/-- What is left to read of pairs. -/
def restP (ps : List Pl.Pr) (tail : List UInt8) (k : Nat) : List UInt8 := (ps.drop k).flatMap Pl.encPr ++ tail
theorem restP_at {ps : List Pl.Pr} {k : Nat} {p : Pl.Pr} (tail : List UInt8) (h : ps[k]? = some p) : restP ps tail k = UInt8.ofNat p.key.length :: (p.key ++ (UInt8.ofNat p.val.length :: (p.val ++ restP ps tail (k + 1)))) := by
  unfold restP
  have hd : ps.drop k = p :: ps.drop (k + 1) := by
    obtain ⟨hlt, rfl⟩ := List.getElem?_eq_some_iff.1 h
    rw [List.drop_eq_getElem_cons hlt]
  rw [hd, List.flatMap_cons]
  simp [Pl.encPr, Pl.short]

set_option maxRecDepth 100000 in
set_option maxHeartbeats 4000000 in
theorem parse_leaf (ps : List Pl.Pr) (tail l : List UInt8) (w : World) (hl : l = Pl.leafText ps ++ tail) (hsz : l.length ≤ 1000) (hp : ∀ p ∈ ps, p.key.length < 256 ∧ p.val.length < 256) :
    Calls Tryz.prog 135 #[.string (tstr l)] w fun e w' => ∃ b, e = .returned (leafV b) ∧ LeafAt w' b ps ∧ w.heap.size ≤ b ∧ Below w.heap.size w w' := by
  obtain ⟨n, hn⟩ : ∃ n, ps.length = n := ⟨_, rfl⟩
  have hlen : n ≤ 500 := by
    have h1 := encPrs_len ps
    have h2 := len_le_lsz ps
    rw [hl, List.length_append] at hsz
    unfold Pl.leafText at hsz
    rw [List.length_cons, List.length_append, Pl.be_length] at hsz
    omega
  have hl1 : l = 108 :: (Pl.be 2 n ++ restP ps tail 0) := by rw [hl]; unfold Pl.leafText restP; rw [hn]; simp
  obtain ⟨w1, hw1⟩ : ∃ w1, w.alloc (.cells #[.string (tstr l), .bool false] 286) = w1 := ⟨_, rfl⟩
  have hb1 : Below w.heap.size w w1 := by rw [← hw1]; exact (Below.refl _ _).alloc (Nat.le_refl _) _
  have hsz1 : w1.heap.size = w.heap.size + 1 := by rw [← hw1]; simp
  obtain ⟨gR, hgR⟩ : ∃ g, w.heap.size = g := ⟨_, rfl⟩
  have R1 : RdT w1 gR l false := ⟨by omega, by rw [← hw1, ← hgR]; exact Blk.new w 286 _⟩
  have HT := Lib.hid (rtake_any gR 1 l false w1 R1 (by rw [hl1]; simp))
  have e1 : tstr (l.take 1) = ⟨#[108]⟩ := by rw [hl1]; rfl
  have e2 : l.drop 1 = Pl.be 2 n ++ restP ps tail 0 := by rw [hl1]; rfl
  rw [e1, e2] at HT
  have HN := Lib.hid hn
  have HP := Lib.hid hp
  have HB1 := Lib.hid hb1
  have HLE : Hid ((restP ps tail 0).length ≤ 1000) := by
    have := hsz
    rw [hl1, List.length_cons, List.length_append] at this
    rw [Hid]
    omega
  have HGR := Lib.hid hgR
  have HS1 := Lib.hid hsz1
  clear hl hl1 hsz hp hb1 R1 e1 e2 hn hsz1
  go_enter Tryz.func135, Tryz.ntmps135
  go_wp2_with fail
  refine HT.out.mono ?_
  rintro e w2 ⟨rfl, r2, o2⟩
  obtain ⟨gL, hgL⟩ : ∃ g, w2.heap.size = g := ⟨_, rfl⟩
  obtain ⟨w3, hw3⟩ : ∃ w3, w2.alloc (.cells #[.slice none 0 0] 164) = w3 := ⟨_, rfl⟩
  have hb3 : Below w2.heap.size w2 w3 := by rw [← hw3]; exact (Below.refl _ _).alloc (Nat.le_refl _) _
  have BL3 : Blk w3 gL 164 [.slice none 0 0] := by rw [← hw3, ← hgL]; exact Blk.new w2 164 _
  have HB2 := Lib.hid (o2.toBelow (B := w.heap.size) HB1.out.size (fun k hk e => by have := HGR.out; omega))
  have HB3 := Lib.hid (HB1.out.trans (HB2.out.trans (hb3.mono (Nat.le_trans HB1.out.size HB2.out.size))))
  have R3 := Lib.hid (r2.below hb3)
  have hn1 : n < 65536 := by omega
  have HT2 := rnum_any gR 2 _ false w3 R3.out (by simp [Pl.be_length]) (by omega)
  rw [num_of_take n (restP ps tail 0) rfl (by omega), drop_be] at HT2
  have HT2 := Lib.hid HT2
  have BL3 := Lib.hid BL3
  have HGL := Lib.hid hgL
  clear r2 o2 hb3 HT
  go_wp2_with fail
  refine HT2.out.mono ?_
  rintro e w4 ⟨rfl, r4, o4⟩
  have hne : gL ≠ gR := by have := HB2.out.size; have := HS1.out; have := HGL.out; have := HGR.out; have := HB1.out.size; have := R3.out.2.lt; have := o4.size; intro e; have h1 := R3.out.2.uniqT (e ▸ BL3.out); revert h1; decide
  have BL4 := Lib.hid (o4.blk BL3.out hne)
  have HB4 := Lib.hid (HB3.out.trans (o4.toBelow (B := w.heap.size) HB3.out.size (fun k hk e => by have := HGR.out; omega)))
  have R4 := Lib.hid r4
  have HNE := Lib.hid hne
  obtain ⟨bs, hbs⟩ : ∃ bs, w4.heap.size = bs := ⟨_, rfl⟩
  have HBS := Lib.hid hbs
  clear r4 o4 hne hbs HT2 hw1 hw3
  go_wp2_with fail
  go_loopw [5] (fun i wr => ∃ k : Nat, k ≤ n ∧ i = .int .i64 ((n : Int) - k) ∧ Hid (RdT wr gR (restP ps tail k) false) ∧ Hid (Below w.heap.size w wr) ∧ Hid (bs ≤ wr.heap.size) ∧
      ∃ v, Hid (Blk wr gL 164 [v]) ∧ Hid (Rw 175 2 wr bs v k (prsCells (ps.take k)))) (fun i _ => (intOf i).toNat)
  case atStart => exact ⟨0, Nat.zero_le _, by simp, R4, HB4, (Nat.le_of_eq HBS.out.symm : bs ≤ w4.heap.size), _, BL4, Rw.nil _ _⟩
  case round =>
    obtain ⟨k, hk, rfl, HR, HM, HB, v, HL, HO⟩ := hrel
    by_cases hkn : k < n
    · have q1 : (0 : Int) < (n : Int) - k := by omega
      have q2 := decide_eq_true q1
      obtain ⟨p, hpk⟩ : ∃ p, ps[k]? = some p := ⟨_, List.getElem?_eq_getElem (by rw [HN.out]; exact hkn)⟩
      have hpb := HP.out p (List.mem_of_getElem? hpk)
      have hrest := restP_at tail hpk
      have HPK := Lib.hid hpk
      obtain ⟨key, val⟩ := p
      obtain ⟨hx1, hx2⟩ := hpb
      dsimp only at hx1 hx2 hrest
      obtain ⟨kn, hkn'⟩ : ∃ m, key.length = m := ⟨_, rfl⟩
      obtain ⟨vn, hvn'⟩ : ∃ m, val.length = m := ⟨_, rfl⟩
      rw [hkn'] at hx1 hrest
      rw [hvn'] at hx2 hrest
      have KN := Lib.hid hkn'
      have VN := Lib.hid hvn'
      obtain ⟨nx, hnx⟩ : ∃ nx, restP ps tail (k + 1) = nx := ⟨_, rfl⟩
      rw [hnx] at hrest
      have HNX := Lib.hid hnx
      rw [hrest] at HR
      have T1 := rnum_any gR 1 _ false wr HR.out (by simp) (by omega)
      rw [num_of_one _ hx1] at T1
      have T1 := Lib.hid T1
      have r1 := HR.out.2.cell 1
      have r0 := HR.out.2.cell 0
      simp only [List.getElem?_cons_succ, List.getElem?_cons_zero] at r0 r1
      clear hpk hrest hkn' hvn' hnx
      go_wp2_with fail
      refine T1.out.mono ?_
      rintro e w5 ⟨rfl, r5, o5⟩
      have T2 := rtake_any gR kn _ false w5 r5 (by rw [List.drop_succ_cons, List.drop_zero, List.length_append, KN.out]; omega)
      rw [List.drop_succ_cons, List.drop_zero, List.take_left' KN.out, List.drop_left' KN.out] at T2
      have T2 := Lib.hid T2
      have O5 := Lib.hid o5
      clear r5 o5 r0 r1 T1
      go_wp2_with fail
      refine T2.out.mono ?_
      rintro e w6 ⟨rfl, r6, o6⟩
      have O6 := Lib.hid (O5.out.trans' o6)
      have T3 := rnum_any gR 1 _ false w6 r6 (by simp) (by omega)
      rw [num_of_one _ hx2] at T3
      have T3D := Lib.hid (show Calls Tryz.prog 163 #[.pointer (some ⟨gR, 0, none⟩), .int .i64 (1 : Nat)] w6.drew _ from (rnum_any gR 1 (UInt8.ofNat vn :: (val ++ nx)) false w6.drew r6 (by simp) (by omega)))
      rw [num_of_one _ hx2] at T3D
      have L6 := Lib.hid (O6.out.blk HL.out HNE.out)
      have HVR : Hid (∀ g, v.ownBlock = some g → g ≠ gR ∧ g ≠ gL) := fun g hg => ⟨by
        rintro rfl
        have := (own_typ HO.out hg).uniq HR.out.2.typ
        revert this; decide, by
        rintro rfl
        have := (own_typ HO.out hg).uniq HL.out.typ
        revert this; decide⟩
      have W6 := Lib.hid (HO.out.only O6.out (fun g hg => (HVR.out g hg).1))
      have l0 := L6.out.cell 0
      have lf := L6.out.frozen 0
      simp only [List.getElem?_cons_zero] at l0
      clear r6 o6 T2 O5
      have L0 : Hid (w6.drew.cell? ⟨gL, 0, none⟩ = some v) := l0
      go_wp2_with fail
      refine wp_region_L 12 (fun W => W.cell? ⟨gL, 0, none⟩ = some v) (fun _ => True) (by kernel_rfl) L0.out trivial (fun hTill => ?_)
      refine wpL_take' (i := 0) (oi := _) (v := ?_) rfl (by kernel_rfl) (by kernel_rfl) (by kernel_rfl) (by kernel_rfl) (fun _ _ _ h => h) (.inl ⟨by rfl, ?_⟩) (by assumption) ?_
      rotate_left
      · intro W hSw
        (try dsimp only at hSw)
        go_simp
        (try rfl)
      (try simp only [Act.put, List.getElem_toArray, List.getElem_cons_succ, List.getElem_cons_zero, List.setIfInBounds_toArray, List.set_cons_zero, List.set_cons_succ])
      refine wpL_take' (i := 1) (oi := _) (v := ?_) rfl (by kernel_rfl) (by kernel_rfl) (by kernel_rfl) (by kernel_rfl) (fun _ _ _ h => h) (.inl ⟨by rfl, ?_⟩) (by assumption) ?_
      rotate_left
      · intro W hSw
        (try dsimp only at hSw)
        go_simp
        (try rfl)
      (try simp only [Act.put, List.getElem_toArray, List.getElem_cons_succ, List.getElem_cons_zero, List.setIfInBounds_toArray, List.set_cons_zero, List.set_cons_succ])
      refine wpL_take' (i := 2) (oi := _) (v := ?_) rfl (by kernel_rfl) (by kernel_rfl) (by kernel_rfl) (by kernel_rfl) (fun _ _ _ h => h) (.inl ⟨by rfl, ?_⟩) (by assumption) ?_
      rotate_left
      · intro W hSw
        (try dsimp only at hSw)
        go_simp
        (try rfl)
      (try simp only [Act.put, List.getElem_toArray, List.getElem_cons_succ, List.getElem_cons_zero, List.setIfInBounds_toArray, List.set_cons_zero, List.set_cons_succ])
      refine wpL_take' (i := 3) (oi := _) (v := ?_) rfl (by kernel_rfl) (by kernel_rfl) (by kernel_rfl) (by kernel_rfl) (fun _ _ _ h => h) (.inl ⟨by rfl, ?_⟩) (by assumption) ?_
      rotate_left
      · intro W hSw
        (try dsimp only at hSw)
        go_simp
        (try rfl)
      (try simp only [Act.put, List.getElem_toArray, List.getElem_cons_succ, List.getElem_cons_zero, List.setIfInBounds_toArray, List.set_cons_zero, List.set_cons_succ])
      refine wpL_take (i := 4) (oi := _) (v := ?_) rfl (by kernel_rfl) (by kernel_rfl) (by kernel_rfl) (by kernel_rfl) (fun _ _ _ h => h) (.inl ⟨by rfl, ?_⟩) (by assumption) ?_
      rotate_left
      · intro W hSw
        (try dsimp only at hSw)
        go_simp
        (try rfl)
      (try simp only [Act.put, List.getElem_toArray, List.getElem_cons_succ, List.getElem_cons_zero, List.setIfInBounds_toArray, List.set_cons_zero, List.set_cons_succ])
      refine wpL_take' (i := 5) (oi := _) (v := ?_) rfl (by kernel_rfl) (by kernel_rfl) (by kernel_rfl) (by kernel_rfl) (fun _ _ _ h => h) (.inl ⟨by rfl, ?_⟩) (by assumption) ?_
      rotate_left
      · intro W hSw
        (try dsimp only at hSw)
        go_simp
        (try rfl)
      (try simp only [Act.put, List.getElem_toArray, List.getElem_cons_succ, List.getElem_cons_zero, List.setIfInBounds_toArray, List.set_cons_zero, List.set_cons_succ])
      refine wpL_take' (i := 6) (oi := _) (v := ?_) rfl (by kernel_rfl) (by kernel_rfl) (by kernel_rfl) (by kernel_rfl) (fun _ _ _ h => h) (.inl ⟨by rfl, ?_⟩) (by assumption) ?_
      rotate_left
      · intro W hSw
        (try dsimp only at hSw)
        go_simp
        (try rfl)
      (try simp only [Act.put, List.getElem_toArray, List.getElem_cons_succ, List.getElem_cons_zero, List.setIfInBounds_toArray, List.set_cons_zero, List.set_cons_succ])
      refine wpL_take' (i := 7) (oi := _) (v := ?_) rfl (by kernel_rfl) (by kernel_rfl) (by kernel_rfl) (by kernel_rfl) (fun _ _ _ h => h) (.inl ⟨by rfl, ?_⟩) (by assumption) ?_
      rotate_left
      · intro W hSw
        (try dsimp only at hSw)
        go_simp
        (try rfl)
      (try simp only [Act.put, List.getElem_toArray, List.getElem_cons_succ, List.getElem_cons_zero, List.setIfInBounds_toArray, List.set_cons_zero, List.set_cons_succ])
      refine wpL_ready (rs := [8]) (by kernel_rfl) (by simp) ?_
      refine AllL.cons (o := _) rfl (fun K hK => ?_) AllL.nil
      go_simp
      refine T3D.out.mono ?_
      rintro e w7 ⟨rfl, r7, o7⟩
      have o7 : Only (· = gR) w6 w7 := o7.undrew
      have T4 := rtake_any gR vn _ false w7 r7 (by rw [List.drop_succ_cons, List.drop_zero, List.length_append, VN.out]; omega)
      rw [List.drop_succ_cons, List.drop_zero, List.take_left' VN.out, List.drop_left' VN.out] at T4
      have T4 := Lib.hid T4
      have O7 := Lib.hid (O6.out.trans' o7)
      have L7 := Lib.hid (L6.out |> o7.blk <| HNE.out)
      have W7 := Lib.hid (W6.out.only o7 (fun g hg => (HVR.out g hg).1))
      clear r7 o7
      go_wp2_with fail
      refine hK.out _ _ ⟨fun _ => L7.out.cell 0, trivial⟩ (fun hTill => ?_)
      clear hK K
      (try simp only [Act.put, List.getElem_toArray, List.getElem_cons_succ, List.getElem_cons_zero, List.setIfInBounds_toArray, List.set_cons_zero, List.set_cons_succ])
      refine wpL_ready (rs := [9]) (by kernel_rfl) (by simp) ?_
      refine AllL.cons (o := _) rfl (fun K hK => ?_) AllL.nil
      go_simp
      refine T4.out.mono ?_
      rintro e w8 ⟨rfl, r8, o8⟩
      have O8 := Lib.hid (O7.out.trans' o8)
      have L8 := Lib.hid (o8.blk L7.out HNE.out)
      have W8 := Lib.hid (W7.out.only o8 (fun g hg => (HVR.out g hg).1))
      have R8 := Lib.hid r8
      clear r8 o8
      go_wp2_with fail
      refine hK.out _ _ ⟨fun _ => L8.out.cell 0, trivial⟩ (fun hTill => ?_)
      clear hK K
      (try simp only [Act.put, List.getElem_toArray, List.getElem_cons_succ, List.getElem_cons_zero, List.setIfInBounds_toArray, List.set_cons_zero, List.set_cons_succ])
      refine wpL_take' (i := 10) (oi := _) (v := ?_) rfl (by kernel_rfl) (by kernel_rfl) (by kernel_rfl) (by kernel_rfl) (fun _ _ _ h => h) (.inl ⟨by rfl, ?_⟩) (by assumption) ?_
      rotate_left
      · intro W hSw
        (try dsimp only at hSw)
        go_simp
        (try rfl)
      (try simp only [Act.put, List.getElem_toArray, List.getElem_cons_succ, List.getElem_cons_zero, List.setIfInBounds_toArray, List.set_cons_zero, List.set_cons_succ])
      refine wpL_ready (rs := [11]) (by kernel_rfl) (by simp) ?_
      refine AllL.cons (o := _) rfl (fun K hK => ?_) AllL.nil
      go_simp
      have S9 := Lib.hid (src_pair w8 ⟨key, val⟩)
      obtain ⟨w9, hw9⟩ : ∃ w9, w8.alloc (.cells #[.string (tstr key), .string (tstr val)] 175) = w9 := ⟨_, rfl⟩
      have B9 : Hid (Below w8.heap.size w8 w9) := by rw [Hid, ← hw9]; exact (Below.refl _ _).alloc (Nat.le_refl _) _
      have W9 := Lib.hid (W8.out.below B9.out)
      have L9 := Lib.hid (L8.out.below B9.out L8.out.lt)
      have R9 := Lib.hid (R8.out.below B9.out)
      rw [hw9] at S9 ⊢
      obtain ⟨g9, hg9⟩ : ∃ g, w8.heap.size = g := ⟨_, rfl⟩
      have HG9 := Lib.hid hg9
      rw [hg9] at S9 ⊢
      refine hK.out _ _ ⟨fun _ => L9.out.cell 0, trivial⟩ (fun hTill => ?_)
      clear hK K
      (try simp only [Act.put, List.getElem_toArray, List.getElem_cons_succ, List.getElem_cons_zero, List.setIfInBounds_toArray, List.set_cons_zero, List.set_cons_succ])
      refine wpL_ready (rs := [12]) (by kernel_rfl) (by simp) ?_
      refine AllL.cons (o := _) rfl (fun K hK => ?_) AllL.nil
      refine step_rw Tryz.eltPair rfl (.tmp 39) (.tmp 46) rfl rfl W9.out (some ⟨g9, 0, none⟩) 1 1 (prCells ⟨key, val⟩) rfl rfl S9.out (by intro u hu; simp only [prCells, List.mem_cons, List.not_mem_nil, or_false] at hu; rcases hu with rfl | rfl <;> rfl) (by omega) (Nat.le_trans HB.out (Nat.le_trans O8.out.size B9.out.size)) ?_
      intro v10 w10 o10 m10
      have nL : Hid (v.ownBlock ≠ some gL) := fun e => (HVR.out gL e).2 rfl
      have nR : Hid (v.ownBlock ≠ some gR) := fun e => (HVR.out gR e).1 rfl
      have L10 := Lib.hid (m10.only.blk L9.out nL.out)
      have R10 : Hid (RdT w10 gR nx false) := ⟨R9.out.1, m10.only.blk R9.out.2 nR.out⟩
      have W10 : Hid (Rw 175 2 w10 bs v10 (k + 1) (prsCells (ps.take (k + 1)))) := by
        have e : prsCells (ps.take (k + 1)) = prsCells (ps.take k) ++ prCells ⟨key, val⟩ := by unfold prsCells; exact flat_succ _ HPK.out
        rw [Hid, e]; exact o10
      have M10 : Hid (Below w.heap.size w w10) := HM.out.trans ((O8.out.toBelow (B := w.heap.size) HM.out.size (fun j hj e => by have := HGR.out; omega)).trans ((B9.out.mono (Nat.le_trans HM.out.size O8.out.size)).trans ((m10.belowR W9.out (Nat.le_trans HB.out (Nat.le_trans O8.out.size B9.out.size))).mono (by have := HBS.out; have := HB4.out.size; omega))))
      have X10 : Hid (bs ≤ w10.heap.size) := Nat.le_trans HB.out (Nat.le_trans O8.out.size (Nat.le_trans B9.out.size m10.1.size))
      clear o10 m10
      obtain ⟨A10, cap10, hv10, _⟩ := W10.out.tsrc
      subst hv10
      refine hK.out _ _ ⟨fun _ => L10.out.cell 0, trivial⟩ (fun hTill => ?_)
      clear hK K
      (try simp only [Act.put, List.getElem_toArray, List.getElem_cons_succ, List.getElem_cons_zero, List.setIfInBounds_toArray, List.set_cons_zero, List.set_cons_succ])
      refine wpL_take' (i := 13) (oi := _) (v := ?_) rfl (by kernel_rfl) (by kernel_rfl) (by kernel_rfl) (by kernel_rfl) (fun _ _ _ h => h) (.inl ⟨by rfl, ?_⟩) (by assumption) ?_
      rotate_left
      · intro W hSw
        (try dsimp only at hSw)
        go_simp
        (try rfl)
      (try simp only [Act.put, List.getElem_toArray, List.getElem_cons_succ, List.getElem_cons_zero, List.setIfInBounds_toArray, List.set_cons_zero, List.set_cons_succ])
      refine wpL_take' (i := 14) (oi := _) (v := ?_) rfl (by kernel_rfl) (by kernel_rfl) (by kernel_rfl) (by kernel_rfl) (fun _ _ _ h => h) (.inl ⟨by rfl, ?_⟩) (by assumption) ?_
      rotate_left
      · intro W hSw
        (try dsimp only at hSw)
        go_simp
        (try rfl)
      (try simp only [Act.put, List.getElem_toArray, List.getElem_cons_succ, List.getElem_cons_zero, List.setIfInBounds_toArray, List.set_cons_zero, List.set_cons_succ])
      refine wpL_ready (rs := [15]) (by kernel_rfl) (by simp) ?_
      refine AllL.cons (o := _) rfl (fun K hK => ?_) AllL.nil
      have lf10 := L10.out.frozen 0
      have l10 := L10.out.cell 0
      simp only [List.getElem?_cons_zero] at l10
      have NV10 : Hid ((Value.slice A10 (k + 1) cap10).ownBlock ≠ some gL) := fun e => by
        have := (own_typ W10.out e).uniq L10.out.typ
        revert this; decide
      go_simp
      obtain ⟨w11, hw11⟩ : ∃ w11, w10.setCell ⟨gL, 0, none⟩ (.slice A10 (k + 1) cap10) = w11 := ⟨_, rfl⟩
      have O11 : Hid (Only (· = gL) w10 w11) := by rw [Hid, ← hw11]; exact (Only.refl (· = gL) w10).setCell (p := ⟨gL, 0, none⟩) (.inl rfl) _
      have L11 : Hid (Blk w11 gL 164 [.slice A10 (k + 1) cap10]) := by rw [Hid, ← hw11]; exact L10.out.set_ 0 _
      have R11 : Hid (RdT w11 gR nx false) := ⟨R10.out.1, O11.out.blk R10.out.2 (fun e => HNE.out e.symm)⟩
      have W11 := Lib.hid (W10.out.only O11.out (fun g hg e => NV10.out (e ▸ hg)))
      have M11 : Hid (Below w.heap.size w w11) := M10.out.trans (O11.out.toBelow (B := w.heap.size) M10.out.size (fun j hj e => by have := HGL.out; have := HB2.out.size; have := HB1.out.size; omega))
      have X11 : Hid (bs ≤ w11.heap.size) := Nat.le_trans X10.out O11.out.size
      rw [hw11]
      refine hK.out _ _ ⟨fun h => Bool.noConfusion ((show _ = true by kernel_rfl).symm.trans h), trivial⟩ (fun hTill => ?_)
      clear hK K
      (try simp only [Act.put, List.getElem_toArray, List.getElem_cons_succ, List.getElem_cons_zero, List.setIfInBounds_toArray, List.set_cons_zero, List.set_cons_succ])
      refine wpL_done (by kernel_rfl) ?_ _
      clear hTill
      clear l0 lf l10 lf10 q2 hw11 hw9
      go_wp2_with fail
      exact ⟨⟨k + 1, by omega, by go_num, (by rw [HNX.out]; exact R11), M11, X11, _, L11, W11⟩, by simp [intOf]; omega⟩
    · obtain rfl : k = n := by omega
      have q1 : ¬ (0 : Int) < (k : Int) - k := by omega
      have q2 := decide_eq_false q1
      have r1 := HR.out.2.cell 1
      simp only [List.getElem?_cons_succ, List.getElem?_cons_zero] at r1
      obtain ⟨A, cap, rfl, hc, hs, hA⟩ := HO.out.tsrc
      have HLA : Hid (LeafAt wr gL ps) := by
        refine ⟨A, cap, ?_, ?_, ?_⟩
        · rw [HN.out]; exact HL.out
        · rw [HN.out]; exact hc
        · have e := List.take_length (l := ps)
          rw [HN.out] at e
          rw [e] at hs
          exact hs
      have HGE : Hid (w.heap.size ≤ gL) := by have := HGL.out; have := HB2.out.size; have := HB1.out.size; rw [Hid]; omega
      clear hc hs hA
      go_wp2_with fail
      go_ret
      exact ⟨gL, rfl, HLA.out, (by have := HGE.out; omega), (by first | exact HM.out | (rw [← hgR]; exact HM.out))⟩
end Go.Proofs.YtljmklohgpaopaaGreatDoor
