/- The walk of the log's All. The walks of the book that the harness keeps: own. The walk of the book's looks, of a book of bytes alone. The walks of the harness's chunks, taken, placed. -/
import Derived.Test.YtljmklohgpaopaaDoorMgLogs17

namespace Go.Proofs.YtljmklohgpaopaaDoor
open Go.RowKit

/-- Rows of bytes that are their own, apart from each other. -/
structure OutAt (w : World) (B : Nat) (vo : Value) (vs : List Value) (ls : List (List UInt8)) : Prop where
  own : w.ownsRow B 23 1 vo ls.length vs
  each : ∀ (k : Nat) (v : Value) (l : List UInt8), vs[k]? = some v → ls[k]? = some l → w.ownsRow B 5 1 v l.length (bv l)
  apart : vs.Pairwise (fun a b => ∀ x, a.ownBlock = some x → b.ownBlock ≠ some x)
theorem OutAt.nil (w : World) (B : Nat) : OutAt w B (.slice none 0 0) [] [] := ⟨World.ownsRow_nil _ _ _ _, fun k v l h => by simp at h, .nil⟩
theorem OutAt.length {w : World} {B : Nat} {vo : Value} {vs : List Value} {ls : List (List UInt8)} (h : OutAt w B vo vs ls) : vs.length = ls.length := by simpa using h.own.1
/-- One more. -/
theorem OutAt.more {w w1 w2 : World} {B : Nat} {vo vo2 vb : Value} {vs : List Value} {ls : List (List UInt8)} {x : List UInt8} (h : OutAt w B vo vs ls) (hB : B ≤ w.heap.size) (hb : Below w.heap.size w w1) (hx : w1.ownsRow w.heap.size 5 1 vb x.length (bv x)) (hg : w1.grownBy w2 vo.ownBlock) (hown : w2.ownsRow B 23 1 vo2 (ls.length + 1) (vs ++ [vb])) :
    OutAt w2 B vo2 (vs ++ [vb]) (ls ++ [x]) := by
  have ho1 := own_below h.own hb
  have ho4 : Only (fun x => vo.ownBlock = some x) w1 w2 := Only.of_grown_own hg
  have hkv : Kinds (fun x => vo.ownBlock = some x) w1 [23] := fun x hx => ⟨_, by simp, own_typ ho1 hx⟩
  have hvl := h.length
  refine ⟨by simpa using hown, fun i u y hu hy => ?_, List.pairwise_append.2 ⟨h.apart, .cons (by simp) .nil, fun a ha b hb' x' hx' => ?_⟩⟩
  · rcases Nat.lt_or_ge i ls.length with h' | h'
    · rw [List.getElem?_append_left (by omega)] at hu
      rw [List.getElem?_append_left h'] at hy
      exact ho4.own_ hkv (own_below (h.each i u y hu hy) hb) (by decide)
    · have hi : i = ls.length := by
        have := (List.getElem?_eq_some_iff.1 hy).1
        simp at this
        omega
      subst hi
      rw [List.getElem?_append_right (Nat.le_refl _), Nat.sub_self] at hy
      rw [← hvl, List.getElem?_append_right (Nat.le_refl _), Nat.sub_self] at hu
      simp at hu hy
      subst hu hy
      exact ho4.own_ hkv (own_low hx hB) (by decide)
  · rw [List.mem_singleton] at hb'
    subst hb'
    intro e
    have h1 := (hx.lt x' e).1
    obtain ⟨j, hj⟩ := List.getElem?_of_mem ha
    have hjl : j < ls.length := by rw [← hvl]; exact (List.getElem?_eq_some_iff.1 hj).1
    have h2 := ((h.each j a _ hj (List.getElem?_eq_getElem hjl)).lt x' hx').2
    omega

set_option maxHeartbeats 4000000 in
set_option maxRecDepth 100000 in
theorem all_any (gl g : Nat) (v va : Value) (vs : List Value) (d : Pl.Dk) (rd : Int) (l : Pl.Lg) (w : World) (h : LogSt w gl g v va vs d rd l) (hrows : l.all.length ≤ 5000) (hsz : ∀ x ∈ l.all, x.length ≤ 2000) :
    Calls Tryd.prog 51 #[.pointer (some ⟨gl, 0, none⟩)] w fun e w' => ∃ vo vs', e = .returned vo ∧ OutAt w' w.heap.size vo vs' l.all ∧ Below w.heap.size w w' := by
  obtain ⟨a0, a1, a2, a3, a4, a5, a6, b0, b1, b2, b3, b4, b5, b6⟩ := facts7 h.cells.blk
  have HR := Lib.hid h.rows
  obtain ⟨Av, capv, rfl, hcv, hsv, _⟩ := own_src h.rows.own
  obtain ⟨N, hN⟩ : ∃ N, l.all.length = N := ⟨_, rfl⟩
  have HN := Lib.hid hN
  rw [hN] at a5 hrows
  have HSZ := Lib.hid hsz
  have hvl : Hid (vs.length = l.all.length) := by rw [Hid]; simpa using h.rows.own.1
  obtain ⟨i0, hi, hz0, hz1, hz2⟩ := info_parts Tryd.infoByte
  have HI := Lib.hid (And.intro hi (And.intro hz0 (And.intro hz1 hz2)))
  obtain ⟨j0, hj, hy0, hy1, hy2⟩ := info_parts Tryd.infoSlice
  have HJ := Lib.hid (And.intro hj (And.intro hy0 (And.intro hy1 hy2)))
  clear h hsz hi hz0 hz1 hz2 hj hy0 hy1 hy2 hcv hsv
  go_enter Tryd.func51, Tryd.ntmps51
  go_wp2_with fail
  clear a0 a1 a2 a3 a4 a5 a6 b0 b1 b2 b3 b4 b5 b6
  go_loopw [3, 11] (fun vo i W => ∃ (k : Nat) (vs' : List Value), k ≤ N ∧ i = .int .i64 (k : Int) ∧ Hid (OutAt W w.heap.size vo vs' (l.all.take k)) ∧ Hid (Below w.heap.size w W)) (fun _ i _ => N - (intOf i).toNat)
  case atStart => exact ⟨0, [], by omega, rfl, OutAt.nil _ _, Below.refl _ _⟩
  case round =>
    obtain ⟨k, vs', hk, rfl, HOUT, HB⟩ := hrel
    obtain ⟨Ao, capo, rfl, _, _, _⟩ := own_src HOUT.out.own
    by_cases hkn : k < N
    · have hkl : k < l.all.length := by rw [HN.out]; exact hkn
      obtain ⟨u, hu⟩ : ∃ u, vs[k]? = some u := ⟨_, List.getElem?_eq_getElem (by rw [hvl.out]; exact hkl)⟩
      obtain ⟨x, hx⟩ : ∃ x, l.all[k]? = some x := ⟨_, List.getElem?_eq_getElem hkl⟩
      have hxl := HSZ.out x (List.mem_of_getElem? hx)
      have hro := own_below HR.out.own HB.out
      obtain ⟨g5, cap', e0, _, _⟩ := own_addr hro (by omega)
      injection e0 with e1 e2 e3
      subst e1
      have cE := own_at hro k u hu
      have hux := own_below (HR.out.each k u x hu hx) HB.out
      obtain ⟨A5, cap5, rfl, hc5, hs5, _⟩ := own_src hux
      have HS5 := Lib.hid hs5
      have htk : l.all.take (k + 1) = l.all.take k ++ [x] := by
        rw [List.take_add_one, hx]
        rfl
      have HTK := Lib.hid htk
      have h63 : Hid (0 + x.length ≤ maxLen) := by rw [Hid]; simp only [maxLen]; omega
      have hroom := Lib.hid (byte_room (n := 0) (m := x.length) (by omega))
      have hlk : (l.all.take k).length = k := by rw [List.length_take]; omega
      rw [hlk]
      have h63b : Hid (k + 1 ≤ maxLen) := by rw [Hid]; simp only [maxLen]; omega
      have hrb := Lib.hid (slice_room (n := k) (m := 1) (by omega))
      have hvo : Hid (wr.ownsRow w.heap.size 23 1 (.slice Ao k capo) k vs') := by
        have := HOUT.out.own
        rw [hlk] at this
        exact this
      rw [hlk] at HOUT
      clear hu hx hro hux hs5 htk hc5
      go_wp2_with (first
        | (at_builtin
           refine wpList_append_src _ rfl (.const (.slice none 0 0)) (.tmp 16) 23 rfl wr.heap.size 5 i0 (.int .u8 0) 1 1 Tryd.underlying23 HI.out.1 HI.out.2.1 HI.out.2.2.1 HI.out.2.2.2 rfl (by decide) (.slice none 0 0) 0 [] rfl (World.ownsRow_nil _ _ _ _) A5 x.length cap5 (bv x) rfl (by simp) HS5.out (bv_ones x) h63.out hroom.out (Nat.le_refl _) ?_
           intro v2 w2 hown2 hgrow2 hat2
           rw [Nat.zero_add, List.nil_append] at hown2
           obtain ⟨A6, cap6, rfl, _, _, _⟩ := own_src hown2
           have hb2 : Below wr.heap.size wr w2 := ⟨hgrow2.os, hgrow2.tape, hgrow2.output, hgrow2.size, fun x hx => hgrow2.block x hx (fun e => by cases e)⟩
           have HB2 := Lib.hid hb2
           have HO2 := Lib.hid hown2
           clear hown2 hgrow2 hat2 hb2)
        | (at_builtin
           obtain ⟨w3, hw3⟩ : ∃ w3, w2.alloc (.cells #[.slice A6 x.length cap6] 23) = w3 := ⟨_, rfl⟩
           have hb3 : Below w2.heap.size w2 w3 := by rw [← hw3]; exact (Below.refl _ _).alloc (Nat.le_refl _) _
           have HB3 := Lib.hid (HB2.out.trans (hb3.mono HB2.out.size))
           have HSR3 : Hid (Src w3 (some ⟨w2.heap.size, 0, none⟩) [.slice A6 x.length cap6]) := by rw [Hid, ← hw3]; exact Src.of_blk (Blk.new w2 23 [.slice A6 x.length cap6])
           have HO3 := Lib.hid (own_below HO2.out hb3)
           have hsw := HB.out.size
           have hs3 := HB3.out.size
           rw [hw3]
           clear hb3 hw3
           refine wpList_append_src _ rfl (.tmp 15) (.tmp 18) 46 rfl w.heap.size 23 j0 (.slice none 0 0) 1 24 Tryd.underlying46 HJ.out.1 HJ.out.2.1 HJ.out.2.2.1 HJ.out.2.2.2 rfl (by decide) (.slice Ao k capo) k vs' rfl (own_below hvo.out HB3.out) (some ⟨w2.heap.size, 0, none⟩) 1 1 [.slice A6 x.length cap6] rfl rfl HSR3.out (by intro u hu; simp at hu; subst hu; rfl) h63b.out hrb.out (Nat.le_trans hsw hs3) ?_
           intro v4 w4 hown4 hgrow4 hat4
           have HOUT4 := Lib.hid (HOUT.out.more hsw HB3.out HO3.out hgrow4 (by rw [hlk]; exact hown4))
           have HB4 : Hid (Below w.heap.size w w4) := (HB.out.trans (HB3.out.mono hsw)).grown hgrow4 (Nat.le_trans hsw hs3) (fun y hy => (hvo.out.lt y hy).1)
           obtain ⟨A7, cap7, rfl, _, _, _⟩ := own_src hown4
           clear hown4 hgrow4 hat4))
      refine ⟨⟨_, _, _, ⟨k + 1, by omega, rfl, vs' ++ [.slice A6 x.length cap6], ?_⟩, rfl, rfl, by go_num⟩, by simp [intOf]; omega⟩
      rw [HTK.out]
      exact HOUT4.out
    · obtain rfl : k = N := by omega
      go_wp2_with fail
      go_ret
      refine ⟨.slice Ao (l.all.take k).length capo, vs', rfl, ?_, HB.out⟩
      have := HOUT.out
      rw [← HN.out, List.take_length] at this
      rw [← HN.out, List.take_length]
      exact this
end Go.Proofs.YtljmklohgpaopaaDoor

namespace Go.Proofs.YtljmklohgpaopaaDoor
open Go.RowKit

/-- The byte that the i-th list is written full of. -/
def markB (i : Nat) : Value := .int .u8 ((i % 256 : Nat) : Int)
/-- The lists of bytes that the caller has written into. -/
structure BookRows (w : World) (B : Nat) (vb : Value) (vs : List Value) : Prop where
  own : w.ownsRow B 23 1 vb vs.length vs
  each : ∀ (i : Nat) (v : Value), vs[i]? = some v → ∃ c, w.ownsRow B 5 1 v c (List.replicate c (markB i))
/-- The book's blocks. -/
def bkF (vb : Value) (vs : List Value) (k : Nat) : Prop := vb.ownBlock = some k ∨ ∃ u ∈ vs, u.ownBlock = some k
theorem BookRows.only {F : Nat → Prop} {w w' : World} {B : Nat} {vb : Value} {vs : List Value} (h : BookRows w B vb vs) (ho : Only F w w') (hF : ∀ k, bkF vb vs k → ¬ F k) : BookRows w' B vb vs :=
  ⟨ho.own h.own (fun k hk => hF k (.inl hk)), fun i v hv => by
    obtain ⟨c, hc⟩ := h.each i v hv
    exact ⟨c, ho.own hc (fun k hk => hF k (.inr ⟨v, List.mem_of_getElem? hv, hk⟩))⟩⟩
theorem BookRows.below {w w' : World} {B : Nat} {vb : Value} {vs : List Value} (h : BookRows w B vb vs) (hb : Below w.heap.size w w') : BookRows w' B vb vs := h.only (Only.of_below hb (fun _ => False)) (fun _ _ => id)
theorem BookRows.lt {w : World} {B : Nat} {vb : Value} {vs : List Value} (h : BookRows w B vb vs) : ∀ k, bkF vb vs k → B ≤ k ∧ k < w.heap.size := by
  rintro k (hk | ⟨u, hu, hk⟩)
  · exact h.own.lt k hk
  · obtain ⟨j, hj⟩ := List.getElem?_of_mem hu
    obtain ⟨c, hc⟩ := h.each j u hj
    exact hc.lt k hk
/-- All of a row that is one's own. -/
theorem own_full {w : World} {base n g cap : Nat} {xs : List Value} {e : TypeId} (h : w.ownsRow base e 1 (.slice (some ⟨g, 0, none⟩) n cap) n xs) : ∃ ys : List Value, ys.length = cap ∧ w.ownsRow base e 1 (.slice (some ⟨g, 0, none⟩) cap cap) cap ys ∧ cap ≤ maxLen := by
  rcases h.2 with ⟨h0, _⟩ | ⟨g', cap', cur, hv, hb, hg, hnc, hcm, hcs, htake⟩
  · cases h0
  · injection hv with h1 h2 h3
    injection h1 with h1
    injection h1 with h1
    subst h1 h3
    refine ⟨cur.toList, by simpa using hcs, ⟨by simpa using hcs, .inr ⟨g, cap, cur, rfl, hb, hg, Nat.le_refl _, hcm, hcs, ?_⟩⟩, hcm⟩
    rw [List.take_of_length_le (by simpa using Nat.le_of_eq hcs)]
theorem rep_set (v : Value) (ys : List Value) (k : Nat) (h : k < ys.length) : (List.replicate k v ++ ys.drop k).set k v = List.replicate (k + 1) v ++ ys.drop (k + 1) := by
  rw [List.set_append_right _ _ (by simp), List.length_replicate, Nat.sub_self, List.drop_eq_getElem_cons h, List.set_cons_zero, List.replicate_succ', List.append_assoc]
  rfl

/-- What owning leaves. -/
def OwnPost (gx o B : Nat) (t : TypeId) (cs : List Value) (va vb : Value) (vs : List Value) (w : World) (e : Ending) (w' : World) : Prop :=
  ∃ vb' v', e = .returned (.tuple #[]) ∧ BookRows w' B vb' (vs ++ [v']) ∧ Blk w' gx t (cs.set o vb') ∧ v'.ownBlock = va.ownBlock ∧ (vb'.ownBlock = vb.ownBlock ∨ ∀ x, vb'.ownBlock = some x → w.heap.size ≤ x) ∧ Only (fun x => x = gx ∨ vb.ownBlock = some x ∨ va.ownBlock = some x) w w'

set_option maxHeartbeats 4000000 in
set_option maxRecDepth 100000 in
theorem own_any' (gx o B : Nat) (t : TypeId) (cs : List Value) (vb va : Value) (vs : List Value) (n : Nat) (xs : List Value) (w : World) (hK : BookRows w B vb vs) (hX : Blk w gx t cs) (ho : cs[o]? = some vb) (ht1 : t ≠ 5) (ht2 : t ≠ 23) (ha : w.ownsRow B 5 1 va n xs) (hn : 0 < n)
    (hap : ∀ u ∈ vs, ∀ x, va.ownBlock = some x → u.ownBlock ≠ some x) (hBx : B ≤ w.heap.size) (hlen : vs.length ≤ 1000000000) :
    Calls Tryd.prog 73 #[.pointer (some ⟨gx, o, none⟩), va] w (OwnPost gx o B t cs va vb vs w) := by
  obtain ⟨g, cap, rfl, hBg, hnc⟩ := own_addr ha hn
  obtain ⟨ys, hyl, hfull, hcm⟩ := own_full ha
  obtain ⟨Ab, capb, rfl, _, _, _⟩ := own_src hK.own
  obtain ⟨j0, hj, hy0, hy1, hy2⟩ := info_parts Tryd.infoSlice
  have HJ := Lib.hid (And.intro hj (And.intro hy0 (And.intro hy1 hy2)))
  have HK := Lib.hid hK
  have HX := Lib.hid hX
  have HF := Lib.hid hfull
  have hgx : gx ≠ g := fun e => ht1 (own_type hfull rfl (e ▸ hX))
  have hvbg : ∀ x, (Value.slice Ab vs.length capb).ownBlock = some x → x ≠ g := fun x hx e => by
    subst e
    have := (own_typ hK.own hx).uniq (own_typ hfull rfl)
    revert this
    decide
  have cX := (hX.cell o).trans ho
  have fX := hX.frozen o
  clear hK hX hfull hj hy0 hy1 hy2 ha
  go_enter Tryd.func73, Tryd.ntmps73
  go_wp2_with fail
  go_loopw [5] (fun i W => ∃ (k : Nat), k ≤ cap ∧ i = .int .i64 (k : Int) ∧ Hid (W.ownsRow B 5 1 (.slice (some ⟨g, 0, none⟩) cap cap) cap (List.replicate k (markB vs.length) ++ ys.drop k)) ∧ Hid (Only (· = g) w W)) (fun i _ => cap - (intOf i).toNat)
  case atStart => exact ⟨0, Nat.zero_le _, rfl, HF.out, Only.refl _ _⟩
  case round =>
    obtain ⟨k, hk, rfl, HR, HO⟩ := hrel
    have hX2 := HO.out.blk HX.out hgx
    have cX2 := (hX2.cell o).trans ho
    have fX2 := hX2.frozen o
    have hK2 := HK.out.only HO.out (fun x hx e => by
      subst e
      rcases hx with hx | ⟨u, hu, hx⟩
      · exact hvbg x hx rfl
      · exact hap u hu x rfl hx)
    have HX2 := Lib.hid hX2
    have HK2 := Lib.hid hK2
    clear cX fX hX2 hK2
    by_cases hkc : k < cap
    · have cR := HR.out.cellAt k (by omega)
      have fR := HR.out.frozenAt k
      have hcap : (cap : Int) ≤ 9223372036854775807 := by simp only [maxLen] at hcm; omega
      go_wp2_with fail
      refine ⟨⟨k + 1, by omega, by go_num, ?_, HO.out.setCell (p := ⟨g, k, none⟩) (.inl rfl) _⟩, by simp [intOf]; omega⟩
      rw [show ((vs.length : Int) % 256) = ((vs.length % 256 : Nat) : Int) by omega]
      have := (HR.out.stored k (markB vs.length)).1
      rw [rep_set _ _ _ (by omega)] at this
      exact this
    · obtain rfl : k = cap := by omega
      have h63 : Hid (vs.length + 1 ≤ maxLen) := by rw [Hid]; simp only [maxLen]; omega
      have hrb := Lib.hid (slice_room (n := vs.length) (m := 1) (by omega))
      have hRR : Hid (wr.ownsRow B 5 1 (.slice (some ⟨g, 0, none⟩) k k) k (List.replicate k (markB vs.length))) := by
        have := HR.out
        rw [List.drop_of_length_le (by omega), List.append_nil] at this
        exact this
      have hsO := HO.out.size
      go_wp2_with (at_builtin
                   obtain ⟨w3, hw3⟩ : ∃ w3, wr.alloc (.cells #[.slice (some ⟨g, 0, none⟩) k k] 23) = w3 := ⟨_, rfl⟩
                   have hb3 : Below wr.heap.size wr w3 := by rw [← hw3]; exact (Below.refl _ _).alloc (Nat.le_refl _) _
                   have HB3 := Lib.hid hb3
                   have HSR3 : Hid (Src w3 (some ⟨wr.heap.size, 0, none⟩) [.slice (some ⟨g, 0, none⟩) k k]) := by rw [Hid, ← hw3]; exact Src.of_blk (Blk.new wr 23 [.slice (some ⟨g, 0, none⟩) k k])
                   have HO3 := Lib.hid (own_below hRR.out hb3)
                   have HK3 := Lib.hid (HK2.out.below hb3)
                   have HX3 := Lib.hid (HX2.out.below hb3 HX2.out.lt)
                   have hs3 := hb3.size
                   rw [hw3]
                   clear hb3 hw3
                   refine wpList_append_src _ rfl (.tmp 29) (.tmp 31) 46 rfl B 23 j0 (.slice none 0 0) 1 24 Tryd.underlying46 HJ.out.1 HJ.out.2.1 HJ.out.2.2.1 HJ.out.2.2.2 rfl (by decide) (.slice Ab vs.length capb) vs.length vs rfl HK3.out.own (some ⟨wr.heap.size, 0, none⟩) 1 1 [.slice (some ⟨g, 0, none⟩) k k] rfl rfl HSR3.out (by intro u hu; simp at hu; subst hu; rfl) h63.out hrb.out (by omega) ?_
                   intro v4 w4 hown4 hgrow4 hat4
                   have hxb : some gx ≠ (Value.slice Ab vs.length capb).ownBlock := fun e => ht2 ((HX3.out.typ).uniq (own_typ HK3.out.own e.symm))
                   have hX4 := HX3.out.grown hgrow4 hxb
                   have HX4 := Lib.hid hX4
                   have cX4 := (hX4.cell o).trans ho
                   have fX4 := hX4.frozen o
                   have HG4 := Lib.hid hgrow4
                   have HO4 := Lib.hid hown4
                   have HA4 := Lib.hid hat4
                   obtain ⟨A4, cap4, rfl, _, _, _⟩ := own_src hown4
                   clear hown4 hgrow4 hat4 hX4)
      go_end0
      have ho4 := Only.of_grown_own HG4.out
      have hkv : Kinds (fun x => (Value.slice Ab vs.length capb).ownBlock = some x) w3 [23] := fun x hx => ⟨_, by simp, own_typ HK3.out.own hx⟩
      have ho5 : Only (· = gx) w4 (w4.setCell ⟨gx, o, none⟩ (.slice A4 (vs.length + 1) cap4)) := (Only.refl (· = gx) w4).setCell (p := ⟨gx, o, none⟩) (.inl rfl) _
      have hk5 : Kinds (· = gx) w4 [t] := fun x hx => ⟨t, by simp, by rw [hx]; exact HX4.out.typ⟩
      have hn1 : 5 ∉ [t] := by simpa using Ne.symm ht1
      have hn2 : 23 ∉ [t] := by simpa using Ne.symm ht2
      refine ⟨.slice A4 (vs.length + 1) cap4, .slice (some ⟨g, 0, none⟩) k k, rfl, ⟨?_, fun i u hu => ?_⟩, HX4.out.set_ o _, rfl, ?_, ?_⟩
      · have := ho5.own_ hk5 HO4.out hn2
        rw [show (vs ++ [Value.slice (some ⟨g, 0, none⟩) k k]).length = vs.length + 1 by simp]
        exact this
      · rcases Nat.lt_or_ge i vs.length with h' | h'
        · rw [List.getElem?_append_left h'] at hu
          obtain ⟨c, hc⟩ := HK3.out.each i u hu
          exact ⟨c, ho5.own_ hk5 (ho4.own_ hkv hc (by decide)) hn1⟩
        · have hi : i = vs.length := by
            have := (List.getElem?_eq_some_iff.1 hu).1
            simp at this
            omega
          subst hi
          rw [List.getElem?_append_right (Nat.le_refl _), Nat.sub_self] at hu
          simp at hu
          subst hu
          exact ⟨k, ho5.own_ hk5 (ho4.own_ hkv HO3.out (by decide)) hn1⟩
      · rcases HA4.out with e | e
        · exact .inl e
        · refine .inr (fun x hx => ?_)
          rw [hx] at e
          injection e with e
          omega
      · refine ((HO.out.mono (fun x _ e => .inr (.inr ?_))).below HB3.out).trans' ((ho4.mono (fun x _ e => .inr (.inl e))).trans' (ho5.mono (fun x _ e => .inl e)))
        rw [e]
        rfl
end Go.Proofs.YtljmklohgpaopaaDoor

namespace Go.Proofs.YtljmklohgpaopaaDoor
open Go.RowKit

def nils : List Value := [.slice none 0 0, .slice none 0 0, .slice none 0 0, .slice none 0 0]

set_option maxHeartbeats 4000000 in
set_option maxRecDepth 100000 in
theorem looks_any (gx o B : Nat) (vb : Value) (vs : List Value) (w : World) (hK : BookRows w B vb vs) (c0 : w.cell? ⟨gx, o, none⟩ = some vb) (c1 : w.cell? ⟨gx, o + 1, none⟩ = some (.slice none 0 0)) (c2 : w.cell? ⟨gx, o + 2, none⟩ = some (.slice none 0 0)) (c3 : w.cell? ⟨gx, o + 3, none⟩ = some (.slice none 0 0)) (c4 : w.cell? ⟨gx, o + 4, none⟩ = some (.slice none 0 0)) (hlen : vs.length ≤ 1000000000) :
    Calls Tryd.prog 19 #[.pointer (some ⟨gx, o, none⟩)] w fun e w' => e = .returned (.bool true) ∧ w = w' := by
  obtain ⟨Ab, capb, rfl, _, _, _⟩ := own_src hK.own
  have HK := Lib.hid hK
  obtain ⟨N, hN⟩ : ∃ N, vs.length = N := ⟨_, rfl⟩
  rw [hN] at c0 hlen
  have HN := Lib.hid hN
  clear hK hN
  go_enter Tryd.func19, Tryd.ntmps19
  go_wp2_with fail
  go_loopw [3] (fun i W => ∃ (k : Nat), k ≤ N ∧ i = .int .i64 (k : Int) ∧ w = W) (fun i _ => N - (intOf i).toNat)
  case atStart => exact ⟨0, Nat.zero_le _, rfl, rfl⟩
  case round =>
    obtain ⟨k, hk, rfl, rfl⟩ := hrel
    by_cases hkn : k < N
    · obtain ⟨u, hu⟩ : ∃ u, vs[k]? = some u := ⟨_, List.getElem?_eq_getElem (by rw [HN.out]; exact hkn)⟩
      obtain ⟨c, hc⟩ := HK.out.each k u hu
      obtain ⟨gb, cap', e0, _, _⟩ := own_addr HK.out.own (by rw [HN.out]; omega)
      injection e0 with e1 e2 e3
      subst e1
      have cE := own_at HK.out.own k u hu
      have hcm : c ≤ maxLen := by
        rcases hc.2 with ⟨_, h0⟩ | ⟨_, _, _, _, _, _, h1, h2, _⟩
        · rw [h0]; exact Nat.zero_le _
        · exact Nat.le_trans h1 h2
      obtain ⟨Au, capu, rfl, _, _, _⟩ := own_src hc
      have HC := Lib.hid hc
      clear hu hc
      have q : (((k % 256 : Nat) : Int) != (k : Int) % 256) = false := by simp
      go_wp2_with fail
      go_loopw [4] (fun i W => ∃ (j : Nat), j ≤ c ∧ i = .int .i64 (j : Int) ∧ w = W) (fun i _ => c - (intOf i).toNat)
      case atStart => exact ⟨0, Nat.zero_le _, rfl, rfl⟩
      case round =>
        obtain ⟨j, hj, rfl, rfl⟩ := hrel
        by_cases hjc : j < c
        · obtain ⟨gu, capv, e4, _, _⟩ := own_addr HC.out (by omega)
          injection e4 with e5 e6 e7
          subst e5
          have cV := own_at HC.out j (markB k) (by rw [List.getElem?_replicate, if_pos hjc])
          unfold markB at cV
          have hc63 : (c : Int) ≤ 9223372036854775807 := by simp only [maxLen] at hcm; omega
          go_wp2_with fail
          exact ⟨⟨j + 1, by omega, by go_num, (by trivial)⟩, by simp [intOf]; omega⟩
        · obtain rfl : j = c := by omega
          go_wp2_with fail
          exact ⟨⟨k + 1, by omega, by go_num, (by trivial)⟩, by simp [intOf]; omega⟩
    · obtain rfl : k = N := by omega
      go_wp2_with fail
      go_loopw [5] (fun i W => i = .int .i64 0 ∧ w = W) (fun _ _ => 0)
      case atStart => exact ⟨rfl, rfl⟩
      case round =>
        obtain ⟨rfl, rfl⟩ := hrel
        go_wp2_with fail
        go_loopw [7] (fun i W => i = .int .i64 0 ∧ w = W) (fun _ _ => 0)
        case atStart => exact ⟨rfl, rfl⟩
        case round =>
          obtain ⟨rfl, rfl⟩ := hrel
          go_wp2_with fail
          go_loopw [9] (fun i W => i = .int .i64 0 ∧ w = W) (fun _ _ => 0)
          case atStart => exact ⟨rfl, rfl⟩
          case round =>
            obtain ⟨rfl, rfl⟩ := hrel
            go_wp2_with fail
            go_loopw [11] (fun i W => i = .int .i64 0 ∧ w = W) (fun _ _ => 0)
            case atStart => exact ⟨rfl, rfl⟩
            case round =>
              obtain ⟨rfl, rfl⟩ := hrel
              go_wp2_with fail
              go_ret
              exact ⟨rfl, rfl⟩
end Go.Proofs.YtljmklohgpaopaaDoor

namespace Go.Proofs.YtljmklohgpaopaaDoor
open Go.RowKit

theorem lchunks_any (n : Nat) (w : World) (hn : n ≤ 1000000000000) :
    Calls Tryd.prog 40 #[.int .i64 (n : Nat)] w fun e w' => e = .returned (.int .i64 (((n + 199) / 200 : Nat) : Int)) ∧ w = w' := by
  have hq : ((n : Int) + 199).tdiv 200 = (((n + 199) / 200 : Nat) : Int) := by
    rw [Int.tdiv_eq_ediv_of_nonneg (by omega)]
    omega
  obtain ⟨q, hqe⟩ : ∃ q : Nat, (n + 199) / 200 = q := ⟨_, rfl⟩
  rw [hqe] at hq ⊢
  have hq2 : q ≤ 1000000000000 := by omega
  have hw : IntKind.i64.wrap (q : Int) = (q : Int) := IntWalk.i64_in _ (by omega)
  go_enter Tryd.func40, Tryd.ntmps40
  go_wp2_with fail
  go_ret
  exact ⟨by simp, rfl⟩

/-- What the strings take. -/
def takes (ss : List ByteArray) : Nat := (ss.map (fun s => (s.size + 199) / 200)).sum
theorem takes_take (ss : List ByteArray) (k : Nat) (s : ByteArray) (h : ss[k]? = some s) : takes (ss.take (k + 1)) = takes (ss.take k) + (s.size + 199) / 200 := by
  unfold takes
  rw [List.take_add_one, h]
  simp
theorem takes_le (ss : List ByteArray) (h : ∀ s ∈ ss, s.size ≤ 2000) (k : Nat) : takes (ss.take k) ≤ 10 * ss.length := by
  have : ∀ l : List ByteArray, (∀ s ∈ l, s.size ≤ 2000) → takes l ≤ 10 * l.length := by
    intro l
    induction l with
    | nil => intro _; exact Nat.le_refl _
    | cons a r ih =>
      intro hl
      have h1 := hl a (by simp)
      have h2 := ih (fun s hs => hl s (by simp [hs]))
      unfold takes at h2 ⊢
      simp only [List.map_cons, List.sum_cons, List.length_cons]
      omega
  have h1 := this (ss.take k) (fun s hs => h s (List.mem_of_mem_take hs))
  rw [List.length_take] at h1
  omega

set_option maxHeartbeats 2000000 in
set_option maxRecDepth 100000 in
theorem taken_any (gx B : Nat) (vall : Value) (ss : List ByteArray) (w : World) (h : w.ownsRow B 9 1 vall ss.length (sv ss)) (c : w.cell? ⟨gx, 4, none⟩ = some vall) (hs : ∀ s ∈ ss, s.size ≤ 2000) (hl : ss.length ≤ 100000) :
    Calls Tryd.prog 39 #[.pointer (some ⟨gx, 0, none⟩)] w fun e w' => e = .returned (.int .i64 (takes ss : Nat)) ∧ w = w' := by
  obtain ⟨N, hN⟩ : ∃ N, ss.length = N := ⟨_, rfl⟩
  have HN := Lib.hid hN
  obtain ⟨A, cap, rfl, _, _, _⟩ := own_src h
  rw [hN] at c hl
  have H := Lib.hid h
  have HSZ := Lib.hid hs
  have HT := Lib.hid (takes_le ss hs)
  clear h hs hN
  go_enter Tryd.func39, Tryd.ntmps39
  go_wp2_with fail
  go_loopw [3, 4] (fun t i W => ∃ (k : Nat), k ≤ N ∧ i = .int .i64 (k : Int) ∧ t = .int .i64 (takes (ss.take k) : Nat) ∧ w = W) (fun _ i _ => N - (intOf i).toNat)
  case atStart => exact ⟨0, Nat.zero_le _, rfl, rfl, rfl⟩
  case round =>
    obtain ⟨k, hk, rfl, rfl, rfl⟩ := hrel
    by_cases hkn : k < N
    · obtain ⟨s, hs⟩ : ∃ s, ss[k]? = some s := ⟨_, List.getElem?_eq_getElem (by rw [HN.out]; exact hkn)⟩
      have hsz := HSZ.out s (List.mem_of_getElem? hs)
      obtain ⟨gb, cap', e0, _, _⟩ := own_addr H.out (by rw [HN.out]; omega)
      injection e0 with e1 e2 e3
      subst e1
      have cE := own_at H.out k (.string s) (by simp [sv, hs])
      have HTK := Lib.hid (takes_take ss k s hs)
      have hT := HT.out k
      rw [HN.out] at hT
      obtain ⟨T, hTe⟩ : ∃ T, takes (ss.take k) = T := ⟨_, rfl⟩
      rw [hTe] at hT HTK ⊢
      obtain ⟨z, hz⟩ : ∃ z, s.size = z := ⟨_, rfl⟩
      have HZ := Lib.hid hz
      have hzi : (s.size : Int) = (z : Int) := by rw [hz]
      have hcall := Lib.hid (fun W => lchunks_any z W (by omega))
      obtain ⟨q, hqe⟩ : ∃ q : Nat, (z + 199) / 200 = q := ⟨_, rfl⟩
      have hq10 : q ≤ 20 := by omega
      rw [hqe] at hcall
      have HQ := Lib.hid hqe
      clear hs hsz hz hqe
      go_wp2_with fail
      refine (hcall.out _).mono ?_
      rintro e w' ⟨rfl, rfl⟩
      go_wp2_with fail
      refine ⟨⟨k + 1, by omega, by go_num, ?_, by trivial⟩, by simp [intOf]; omega⟩
      rw [HTK.out, HZ.out, HQ.out]
      go_num
    · obtain rfl : k = N := by omega
      go_wp2_with fail
      go_ret
      refine ⟨?_, rfl⟩
      rw [← HN.out, List.take_length]
      rfl

set_option maxHeartbeats 1000000 in
theorem lplaced_any (g : Nat) (v : Value) (d : Pl.Dk) (rd : Int) (first sectors least : Int) (w : World) (h : DiskAt w g v d rd) :
    Calls Tryd.prog 17 #[.pointer (some ⟨g, 0, none⟩), .int .i64 first, .int .i64 sectors, .int .i64 least] w fun e w' => e = .returned (.bool (placedB d.secs.length first sectors least)) ∧ w = w' := by
  have hm := h.most
  have H := Lib.hid (sectors_any g v d rd w h)
  obtain ⟨n, hn⟩ : ∃ n, d.secs.length = n := ⟨_, rfl⟩
  rw [hn] at hm H ⊢
  clear hn h
  by_cases h1 : least ≤ sectors
  · have e1 : decide (least ≤ sectors) = true := decide_eq_true h1
    by_cases h2 : 0 ≤ first
    · have e2 : decide (0 ≤ first) = true := decide_eq_true h2
      by_cases h3 : first ≤ (n : Int)
      · have e3 : decide (first ≤ (n : Int)) = true := decide_eq_true h3
        have hp : Hid (placedB n first sectors least = decide (sectors ≤ (n : Int) - first)) := by rw [Hid]; unfold placedB; rw [e1, e2, e3]; simp
        go_enter Tryd.func17, Tryd.ntmps17
        go_wp2_with fail
        refine H.out.mono ?_
        rintro e w' ⟨rfl, rfl⟩
        go_wp2_with fail
        refine H.out.mono ?_
        rintro e w' ⟨rfl, rfl⟩
        go_wp2_with fail
        go_ret
        exact ⟨by rw [hp.out]; rfl, rfl⟩
      · have e3 : decide (first ≤ (n : Int)) = false := decide_eq_false h3
        have hp : Hid (placedB n first sectors least = false) := by rw [Hid]; unfold placedB; rw [e3]; simp
        go_enter Tryd.func17, Tryd.ntmps17
        go_wp2_with fail
        refine H.out.mono ?_
        rintro e w' ⟨rfl, rfl⟩
        go_wp2_with fail
        go_ret
        exact ⟨by rw [hp.out]; rfl, rfl⟩
    · have e2 : decide (0 ≤ first) = false := decide_eq_false h2
      have hp : Hid (placedB n first sectors least = false) := by rw [Hid]; unfold placedB; rw [e2]; simp
      go_enter Tryd.func17, Tryd.ntmps17
      go_wp2_with fail
      go_ret
      exact ⟨by rw [hp.out]; rfl, rfl⟩
  · have e1 : decide (least ≤ sectors) = false := decide_eq_false h1
    have hp : Hid (placedB n first sectors least = false) := by rw [Hid]; unfold placedB; rw [e1]; simp
    go_enter Tryd.func17, Tryd.ntmps17
    go_wp2_with fail
    go_ret
    exact ⟨by rw [hp.out]; rfl, rfl⟩
end Go.Proofs.YtljmklohgpaopaaDoor
