/- The walk of the log's All. The walks of the book that the harness keeps: own. The walk of the book's looks, of a book of bytes alone. The walks of the harness's chunks, taken, placed. The walks of the disk's New, Copy. The walk of the harness's same. The harness's step on a log: what is kept; the steps Sync, Reset, and none. The harness's step on a log: no step, and Append. The harness's step on a log: Append. The harness's step on a log: Append that is done. -/
import Derived.Test.YtljmklohgpaopaaDoorMgLogged10
import Derived.Test.YtljmklohgpaopaaDoorMgLogged4
import Derived.Test.YtljmklohgpaopaaDoorMgLogged5
import Derived.Lib.AppendStr
set_option linter.unusedVariables false
set_option linter.unusedSimpArgs false

namespace Go.Proofs.YtljmklohgpaopaaDoor
open Go.RowKit

/-- Rows of bytes that are their own, apart from each other. -/
structure OutAt (w : World) (B : Nat) (vo : Value) (vs : List Value) (ls : List (List UInt8)) : Prop where
  own : w.ownsRow B 23 1 vo ls.length vs
  each : ∀ (k : Nat) (v : Value) (l : List UInt8), vs[k]? = some v → ls[k]? = some l → w.ownsRow B 5 1 v l.length (bv l)
  apart : vs.Pairwise (fun a b => ∀ x, a.ownBlock = some x → b.ownBlock ≠ some x)
theorem OutAt.nil (w : World) (B : Nat) : OutAt w B (.slice none 0 0) [] [] := ⟨World.ownsRow_nil _ _ _ _, fun k v l h => by simp at h, .nil⟩
theorem OutAt.length {w : World} {B : Nat} {vo : Value} {vs : List Value} {ls : List (List UInt8)} (h : OutAt w B vo vs ls) : vs.length = ls.length := by simpa using h.own.1
/-- One more. -/
theorem OutAt.more {w w1 w2 : World} {B : Nat} {vo vo2 vb : Value} {vs : List Value} {ls : List (List UInt8)} {x : List UInt8} (h : OutAt w B vo vs ls) (hB : B ≤ w.heap.size) (hb : Below w.heap.size w w1) (hx : w1.ownsRow w.heap.size 5 1 vb x.length (bv x)) (hg : w1.grownBy w2 vo.ownBlock) (hown : w2.ownsRow B 23 1 vo2 (ls.length + 1) (vs ++ [vb])) :
    OutAt w2 B vo2 (vs ++ [vb]) (ls ++ [x]) := by
  have ho1 := own_below h.own hb
  have ho4 : Only (fun x => vo.ownBlock = some x) w1 w2 := Only.of_grown_own hg
  have hkv : Kinds (fun x => vo.ownBlock = some x) w1 [23] := fun x hx => ⟨_, by simp, own_typ ho1 hx⟩
  have hvl := h.length
  refine ⟨by simpa using hown, fun i u y hu hy => ?_, List.pairwise_append.2 ⟨h.apart, .cons (by simp) .nil, fun a ha b hb' x' hx' => ?_⟩⟩
  · rcases Nat.lt_or_ge i ls.length with h' | h'
    · rw [List.getElem?_append_left (by omega)] at hu
      rw [List.getElem?_append_left h'] at hy
      exact ho4.own_ hkv (own_below (h.each i u y hu hy) hb) (by decide)
    · have hi : i = ls.length := by
        have := (List.getElem?_eq_some_iff.1 hy).1
        simp at this
        omega
      subst hi
      rw [List.getElem?_append_right (Nat.le_refl _), Nat.sub_self] at hy
      rw [← hvl, List.getElem?_append_right (Nat.le_refl _), Nat.sub_self] at hu
      simp at hu hy
      subst hu hy
      exact ho4.own_ hkv (own_low hx hB) (by decide)
  · rw [List.mem_singleton] at hb'
    subst hb'
    intro e
    have h1 := (hx.lt x' e).1
    obtain ⟨j, hj⟩ := List.getElem?_of_mem ha
    have hjl : j < ls.length := by rw [← hvl]; exact (List.getElem?_eq_some_iff.1 hj).1
    have h2 := ((h.each j a _ hj (List.getElem?_eq_getElem hjl)).lt x' hx').2
    omega

set_option maxHeartbeats 4000000 in
set_option maxRecDepth 100000 in
theorem all_any (gl g : Nat) (v va : Value) (vs : List Value) (d : Pl.Dk) (rd : Int) (l : Pl.Lg) (w : World) (h : LogSt w gl g v va vs d rd l) (hrows : l.all.length ≤ 5000) (hsz : ∀ x ∈ l.all, x.length ≤ 2000) :
    Calls Tryd.prog 51 #[.pointer (some ⟨gl, 0, none⟩)] w fun e w' => ∃ vo vs', e = .returned vo ∧ OutAt w' w.heap.size vo vs' l.all ∧ Below w.heap.size w w' := by
  obtain ⟨a0, a1, a2, a3, a4, a5, a6, b0, b1, b2, b3, b4, b5, b6⟩ := facts7 h.cells.blk
  have HR := Lib.hid h.rows
  obtain ⟨Av, capv, rfl, hcv, hsv, _⟩ := own_src h.rows.own
  obtain ⟨N, hN⟩ : ∃ N, l.all.length = N := ⟨_, rfl⟩
  have HN := Lib.hid hN
  rw [hN] at a5 hrows
  have HSZ := Lib.hid hsz
  have hvl : Hid (vs.length = l.all.length) := by rw [Hid]; simpa using h.rows.own.1
  obtain ⟨i0, hi, hz0, hz1, hz2⟩ := info_parts Tryd.infoByte
  have HI := Lib.hid (And.intro hi (And.intro hz0 (And.intro hz1 hz2)))
  obtain ⟨j0, hj, hy0, hy1, hy2⟩ := info_parts Tryd.infoSlice
  have HJ := Lib.hid (And.intro hj (And.intro hy0 (And.intro hy1 hy2)))
  clear h hsz hi hz0 hz1 hz2 hj hy0 hy1 hy2 hcv hsv
  go_enter Tryd.func51, Tryd.ntmps51
  go_wp2_with fail
  clear a0 a1 a2 a3 a4 a5 a6 b0 b1 b2 b3 b4 b5 b6
  go_loopw [3, 11] (fun vo i W => ∃ (k : Nat) (vs' : List Value), k ≤ N ∧ i = .int .i64 (k : Int) ∧ Hid (OutAt W w.heap.size vo vs' (l.all.take k)) ∧ Hid (Below w.heap.size w W)) (fun _ i _ => N - (intOf i).toNat)
  case atStart => exact ⟨0, [], by omega, rfl, OutAt.nil _ _, Below.refl _ _⟩
  case round =>
    obtain ⟨k, vs', hk, rfl, HOUT, HB⟩ := hrel
    obtain ⟨Ao, capo, rfl, _, _, _⟩ := own_src HOUT.out.own
    by_cases hkn : k < N
    · have hkl : k < l.all.length := by rw [HN.out]; exact hkn
      obtain ⟨u, hu⟩ : ∃ u, vs[k]? = some u := ⟨_, List.getElem?_eq_getElem (by rw [hvl.out]; exact hkl)⟩
      obtain ⟨x, hx⟩ : ∃ x, l.all[k]? = some x := ⟨_, List.getElem?_eq_getElem hkl⟩
      have hxl := HSZ.out x (List.mem_of_getElem? hx)
      have hro := own_below HR.out.own HB.out
      obtain ⟨g5, cap', e0, _, _⟩ := own_addr hro (by omega)
      injection e0 with e1 e2 e3
      subst e1
      have cE := own_at hro k u hu
      have hux := own_below (HR.out.each k u x hu hx) HB.out
      obtain ⟨A5, cap5, rfl, hc5, hs5, _⟩ := own_src hux
      have HS5 := Lib.hid hs5
      have htk : l.all.take (k + 1) = l.all.take k ++ [x] := by
        rw [List.take_add_one, hx]
        rfl
      have HTK := Lib.hid htk
      have h63 : Hid (0 + x.length ≤ maxLen) := by rw [Hid]; simp only [maxLen]; omega
      have hroom := Lib.hid (byte_room (n := 0) (m := x.length) (by omega))
      have hlk : (l.all.take k).length = k := by rw [List.length_take]; omega
      rw [hlk]
      have h63b : Hid (k + 1 ≤ maxLen) := by rw [Hid]; simp only [maxLen]; omega
      have hrb := Lib.hid (slice_room (n := k) (m := 1) (by omega))
      have hvo : Hid (wr.ownsRow w.heap.size 23 1 (.slice Ao k capo) k vs') := by
        have := HOUT.out.own
        rw [hlk] at this
        exact this
      rw [hlk] at HOUT
      clear hu hx hro hux hs5 htk hc5
      go_wp2_with (first
        | (at_builtin
           refine wpList_append_src _ rfl (.const (.slice none 0 0)) (.tmp 16) 23 rfl wr.heap.size 5 i0 (.int .u8 0) 1 1 Tryd.underlying23 HI.out.1 HI.out.2.1 HI.out.2.2.1 HI.out.2.2.2 rfl (by decide) (.slice none 0 0) 0 [] rfl (World.ownsRow_nil _ _ _ _) A5 x.length cap5 (bv x) rfl (by simp) HS5.out (bv_ones x) h63.out hroom.out (Nat.le_refl _) ?_
           intro v2 w2 hown2 hgrow2 hat2
           rw [Nat.zero_add, List.nil_append] at hown2
           obtain ⟨A6, cap6, rfl, _, _, _⟩ := own_src hown2
           have hb2 : Below wr.heap.size wr w2 := ⟨hgrow2.os, hgrow2.tape, hgrow2.output, hgrow2.size, fun x hx => hgrow2.block x hx (fun e => by cases e)⟩
           have HB2 := Lib.hid hb2
           have HO2 := Lib.hid hown2
           clear hown2 hgrow2 hat2 hb2)
        | (at_builtin
           obtain ⟨w3, hw3⟩ : ∃ w3, w2.alloc (.cells #[.slice A6 x.length cap6] 23) = w3 := ⟨_, rfl⟩
           have hb3 : Below w2.heap.size w2 w3 := by rw [← hw3]; exact (Below.refl _ _).alloc (Nat.le_refl _) _
           have HB3 := Lib.hid (HB2.out.trans (hb3.mono HB2.out.size))
           have HSR3 : Hid (Src w3 (some ⟨w2.heap.size, 0, none⟩) [.slice A6 x.length cap6]) := by rw [Hid, ← hw3]; exact Src.of_blk (Blk.new w2 23 [.slice A6 x.length cap6])
           have HO3 := Lib.hid (own_below HO2.out hb3)
           have hsw := HB.out.size
           have hs3 := HB3.out.size
           rw [hw3]
           clear hb3 hw3
           refine wpList_append_src _ rfl (.tmp 15) (.tmp 18) 46 rfl w.heap.size 23 j0 (.slice none 0 0) 1 24 Tryd.underlying46 HJ.out.1 HJ.out.2.1 HJ.out.2.2.1 HJ.out.2.2.2 rfl (by decide) (.slice Ao k capo) k vs' rfl (own_below hvo.out HB3.out) (some ⟨w2.heap.size, 0, none⟩) 1 1 [.slice A6 x.length cap6] rfl rfl HSR3.out (by intro u hu; simp at hu; subst hu; rfl) h63b.out hrb.out (Nat.le_trans hsw hs3) ?_
           intro v4 w4 hown4 hgrow4 hat4
           have HOUT4 := Lib.hid (HOUT.out.more hsw HB3.out HO3.out hgrow4 (by rw [hlk]; exact hown4))
           have HB4 : Hid (Below w.heap.size w w4) := (HB.out.trans (HB3.out.mono hsw)).grown hgrow4 (Nat.le_trans hsw hs3) (fun y hy => (hvo.out.lt y hy).1)
           obtain ⟨A7, cap7, rfl, _, _, _⟩ := own_src hown4
           clear hown4 hgrow4 hat4))
      refine ⟨⟨_, _, _, ⟨k + 1, by omega, rfl, vs' ++ [.slice A6 x.length cap6], ?_⟩, rfl, rfl, by go_num⟩, by simp [intOf]; omega⟩
      rw [HTK.out]
      exact HOUT4.out
    · obtain rfl : k = N := by omega
      go_wp2_with fail
      go_ret
      refine ⟨.slice Ao (l.all.take k).length capo, vs', rfl, ?_, HB.out⟩
      have := HOUT.out
      rw [← HN.out, List.take_length] at this
      rw [← HN.out, List.take_length]
      exact this
end Go.Proofs.YtljmklohgpaopaaDoor

namespace Go.Proofs.YtljmklohgpaopaaDoor
open Go.RowKit

/-- The byte that the i-th list is written full of. -/
def markB (i : Nat) : Value := .int .u8 ((i % 256 : Nat) : Int)
/-- The lists of bytes that the caller has written into. -/
structure BookRows (w : World) (B : Nat) (vb : Value) (vs : List Value) : Prop where
  own : w.ownsRow B 23 1 vb vs.length vs
  each : ∀ (i : Nat) (v : Value), vs[i]? = some v → ∃ c, w.ownsRow B 5 1 v c (List.replicate c (markB i))
/-- The book's blocks. -/
def bkF (vb : Value) (vs : List Value) (k : Nat) : Prop := vb.ownBlock = some k ∨ ∃ u ∈ vs, u.ownBlock = some k
theorem BookRows.only {F : Nat → Prop} {w w' : World} {B : Nat} {vb : Value} {vs : List Value} (h : BookRows w B vb vs) (ho : Only F w w') (hF : ∀ k, bkF vb vs k → ¬ F k) : BookRows w' B vb vs :=
  ⟨ho.own h.own (fun k hk => hF k (.inl hk)), fun i v hv => by
    obtain ⟨c, hc⟩ := h.each i v hv
    exact ⟨c, ho.own hc (fun k hk => hF k (.inr ⟨v, List.mem_of_getElem? hv, hk⟩))⟩⟩
theorem BookRows.below {w w' : World} {B : Nat} {vb : Value} {vs : List Value} (h : BookRows w B vb vs) (hb : Below w.heap.size w w') : BookRows w' B vb vs := h.only (Only.of_below hb (fun _ => False)) (fun _ _ => id)
theorem BookRows.lt {w : World} {B : Nat} {vb : Value} {vs : List Value} (h : BookRows w B vb vs) : ∀ k, bkF vb vs k → B ≤ k ∧ k < w.heap.size := by
  rintro k (hk | ⟨u, hu, hk⟩)
  · exact h.own.lt k hk
  · obtain ⟨j, hj⟩ := List.getElem?_of_mem hu
    obtain ⟨c, hc⟩ := h.each j u hj
    exact hc.lt k hk
/-- What owning leaves. -/
def OwnPost (gx o B : Nat) (t : TypeId) (cs : List Value) (va vb : Value) (vs : List Value) (w : World) (e : Ending) (w' : World) : Prop :=
  ∃ vb' v', e = .returned (.tuple #[]) ∧ BookRows w' B vb' (vs ++ [v']) ∧ Blk w' gx t (cs.set o vb') ∧ v'.ownBlock = va.ownBlock ∧ (vb'.ownBlock = vb.ownBlock ∨ ∀ x, vb'.ownBlock = some x → w.heap.size ≤ x) ∧ Only (fun x => x = gx ∨ vb.ownBlock = some x ∨ va.ownBlock = some x) w w'

end Go.Proofs.YtljmklohgpaopaaDoor

namespace Go.Proofs.YtljmklohgpaopaaDoor
open Go.RowKit

end Go.Proofs.YtljmklohgpaopaaDoor

namespace Go.Proofs.YtljmklohgpaopaaDoor
open Go.RowKit

end Go.Proofs.YtljmklohgpaopaaDoor

namespace Go.Proofs.YtljmklohgpaopaaDoor
open Go.RowKit

theorem Tryd.infoSector : (Tryd.prog.info? 92).map (fun i => (i.zero, i.size, i.bytes)) = some (some (.agg #[.string ⟨#[]⟩, .string ⟨#[]⟩, .bool false, .bool false, .bool false]), 5, 40) := by kernel_rfl
theorem sector_room {n m : Nat} (h : n + m ≤ 4398046511104) : ∀ old, old < n + m → Builtin.nextslicecap (n + m) old * 40 ≤ 281474976710656 := by
  intro old ho
  have := nextslicecap_le54 ho
  omega
theorem secsCells_one (l : List Pl.Sec) : ∀ u ∈ secsCells l, u.oneCell' = true := by
  intro u hu
  unfold secsCells at hu
  rw [List.mem_flatMap] at hu
  obtain ⟨s, _, hs⟩ := hu
  simp only [secCells, List.mem_cons, List.not_mem_nil, or_false] at hs
  rcases hs with rfl | rfl | rfl | rfl | rfl <;> rfl

set_option maxHeartbeats 1000000 in
set_option maxRecDepth 100000 in
theorem copy_any (g : Nat) (v : Value) (d : Pl.Dk) (rd : Int) (w : World) (h : DiskAt w g v d rd) :
    Calls Tryd.prog 43 #[.pointer (some ⟨g, 0, none⟩)] w fun e w' => ∃ g' v', e = .returned (.pointer (some ⟨g', 0, none⟩)) ∧ DiskAt w' g' v' d rd ∧ Below w.heap.size w w' ∧ ∀ k, dF g' v' k → w.heap.size ≤ k := by
  have hm := h.most
  obtain ⟨wr, sy, hb⟩ := h.blk
  obtain ⟨c0, c1, c2, c3, c4, f0, f1, f2, f3, f4⟩ := facts5 hb
  obtain ⟨A, cap, rfl, hc, hs, _⟩ := own_src h.own
  have H := Lib.hid h
  obtain ⟨i0, hi, hz0, hz1, hz2⟩ := info_parts Tryd.infoSector
  have HI := Lib.hid (And.intro hi (And.intro hz0 (And.intro hz1 hz2)))
  obtain ⟨w1, hw1⟩ : ∃ w1, w.alloc (.cells #[.slice A d.secs.length cap, .int .i64 d.life, .int .i64 rd, .int .i64 wr, .int .i64 sy] 90) = w1 := ⟨_, rfl⟩
  have hb1 : Below w.heap.size w w1 := by rw [← hw1]; exact (Below.refl _ _).alloc (Nat.le_refl _) _
  have B1 : Blk w1 w.heap.size 90 [.slice A d.secs.length cap, .int .i64 d.life, .int .i64 rd, .int .i64 wr, .int .i64 sy] := by rw [← hw1]; exact Blk.new w 90 _
  obtain ⟨k0, _, _, _, _, _⟩ := facts5 (hb.below hb1 hb.lt)
  obtain ⟨e0, e1, e2, e3, e4, q0, q1, q2, q3, q4⟩ := facts5 B1
  have HB1 := Lib.hid hb1
  have HBK := Lib.hid B1
  have HS1 := Lib.hid (hs.below hb1)
  have h63 : Hid (0 + d.secs.length ≤ maxLen) := by rw [Hid]; simp only [maxLen]; omega
  have hroom := Lib.hid (sector_room (n := 0) (m := d.secs.length) (by omega))
  have hs1 := hb1.size
  clear h hi hz0 hz1 hz2 hb hs hb1 B1
  go_enter Tryd.func43, Tryd.ntmps43
  go_wp2_with (at_builtin
               refine wpList_append_src _ rfl (.const (.slice none 0 0)) (.tmp 10) 88 rfl w1.heap.size 92 i0 _ 5 40 Tryd.underlying88 HI.out.1 HI.out.2.1 HI.out.2.2.1 HI.out.2.2.2 rfl (by decide) (.slice none 0 0) 0 [] rfl (World.ownsRow_nil _ _ _ _) A d.secs.length cap (secsCells d.secs) rfl (secsCells_length _) HS1.out (secsCells_one _) h63.out hroom.out (Nat.le_refl _) ?_
               intro v2 w2 hown2 hgrow2 hat2
               rw [Nat.zero_add, List.nil_append] at hown2
               obtain ⟨A2, cap2, rfl, _, _, _⟩ := own_src hown2
               have hb2 : Below w1.heap.size w1 w2 := ⟨hgrow2.os, hgrow2.tape, hgrow2.output, hgrow2.size, fun x hx => hgrow2.block x hx (fun e => by cases e)⟩
               have HB2 := Lib.hid hb2
               have HO2 := Lib.hid hown2
               have HBK2 := Lib.hid (HBK.out.below hb2 HBK.out.lt)
               obtain ⟨x0, _, _, _, _, y0, _, _, _, _⟩ := facts5 HBK2.out
               clear hown2 hgrow2 hat2 hb2)
  go_ret
  have hlt : w.heap.size < w1.heap.size := HBK.out.lt
  have hfar : ∀ x, (Value.slice A2 d.secs.length cap2).ownBlock = some x → w1.heap.size ≤ x := fun x hx => (HO2.out.lt x hx).1
  have hne : ∀ x, (Value.slice A2 d.secs.length cap2).ownBlock = some x → x ≠ w.heap.size := fun x hx => by have := hfar x hx; omega
  refine ⟨w.heap.size, _, rfl, ⟨hm, H.out.sized, H.out.life, fun e => hne _ e rfl, ?_, wr, sy, HBK2.out.set_ 0 _⟩, (HB1.out.trans (HB2.out.mono hs1)).setCell (p := ⟨w.heap.size, 0, none⟩) (Nat.le_refl _) _, ?_⟩
  · exact Only.own ((Only.refl (· = w.heap.size) w2).setCell (p := ⟨w.heap.size, 0, none⟩) (.inl rfl) _) (own_low HO2.out (Nat.zero_le _)) (fun k hk e => hne k hk e)
  · rintro k (rfl | hk)
    · exact Nat.le_refl _
    · exact Nat.le_trans hs1 (hfar k hk)

theorem new_secs (m : Nat) : secsCells (List.replicate (m + 1) Pl.Sec.empty) = secsCells (List.replicate m Pl.Sec.empty) ++ secCells Pl.Sec.empty := by
  rw [List.replicate_succ', secsCells_append]
  simp [secsCells]
theorem most_le (n : Int) : Pl.most n ≤ 4096 := by
  unfold Pl.most
  by_cases h : n < 0
  · rw [if_pos h]; omega
  · rw [if_neg h]
    by_cases h' : 4096 < n
    · rw [if_pos h']; omega
    · rw [if_neg h']; omega
/-- A disk that is being made. -/
structure NewAt (w : World) (g : Nat) (v : Value) (k : Nat) : Prop where
  far : v.ownBlock ≠ some g
  own : w.ownsRow (g + 1) 92 5 v k (secsCells (List.replicate k Pl.Sec.empty))
  blk : Blk w g 90 [v, .int .i64 (-1), .int .i64 0, .int .i64 0, .int .i64 0]

set_option maxHeartbeats 2000000 in
set_option maxRecDepth 100000 in
theorem new_any (n : Int) (w : World) :
    Calls Tryd.prog 14 #[.int .i64 n] w fun e w' => ∃ v', e = .returned (.pointer (some ⟨w.heap.size, 0, none⟩)) ∧ DiskAt w' w.heap.size v' (Pl.Dk.new n) 0 ∧ Below w.heap.size w w' ∧ ∀ k, dF w.heap.size v' k → w.heap.size ≤ k := by
  have hmk := make_bytes 256 256 (by omega) (by omega)
  obtain ⟨w1, hw1⟩ : ∃ w1, w.alloc (.cells #[.slice none 0 0, .int .i64 (-1), .int .i64 0, .int .i64 0, .int .i64 0] 90) = w1 := ⟨_, rfl⟩
  have hb1 : Below w.heap.size w w1 := by rw [← hw1]; exact (Below.refl _ _).alloc (Nat.le_refl _) _
  have B1 : Blk w1 w.heap.size 90 [.slice none 0 0, .int .i64 (-1), .int .i64 0, .int .i64 0, .int .i64 0] := by rw [← hw1]; exact Blk.new w 90 _
  have hsz1 : w1.heap.size = w.heap.size + 1 := by rw [← hw1]; simp
  have HB1 := Lib.hid hb1
  have HBK := Lib.hid B1
  obtain ⟨w2, hw2⟩ : ∃ w2, w1.alloc (.cells (zrow 256).toArray 5) = w2 := ⟨_, rfl⟩
  have hb2 : Below w1.heap.size w1 w2 := by rw [← hw2]; exact (Below.refl _ _).alloc (Nat.le_refl _) _
  have hcv : (convert 23 9 (.slice (some ⟨w1.heap.size, 0, none⟩) 256 256)).run Tryd.prog w2 = .ok (.string (tstr (Pl.zeros 256))) w2 := by
    rw [← hw2]
    have := run_tostr (w1.alloc (.cells (zrow 256).toArray 5)) (some ⟨w1.heap.size, 0, none⟩) (List.replicate 256 0) 256 (zeros_at _ _)
    rw [List.length_replicate] at this
    exact this
  have HB2 := Lib.hid hb2
  have hs2 := hb2.size
  obtain ⟨Z, hZ⟩ : ∃ Z, tstr (Pl.zeros 256) = Z := ⟨_, rfl⟩
  rw [hZ, hsz1] at hcv
  have HZ := Lib.hid hZ
  obtain ⟨i0, hi, hz0, hz1, hz2⟩ := info_parts Tryd.infoSector
  have HI := Lib.hid (And.intro hi (And.intro hz0 (And.intro hz1 hz2)))
  clear hi hz0 hz1 hz2 hb1 hb2 B1 hZ
  by_cases h1 : n < 0
  · have HM : Hid (Pl.most n = 0) := by unfold Pl.most; rw [Hid, if_pos h1]
    go_enter Tryd.func14, Tryd.ntmps14
    go_wp2_with fail
    go_loopw [5] (fun i W => ∃ (k : Nat) (v : Value), k ≤ 0 ∧ i = .int .i64 (k : Int) ∧ Hid (NewAt W w.heap.size v k) ∧ Hid (Below w.heap.size w W)) (fun i _ => 0 - (intOf i).toNat)
    case atStart =>
      refine ⟨0, .slice none 0 0, Nat.zero_le _, rfl, ⟨(fun e => by cases e), World.ownsRow_nil _ _ _ _, HBK.out.below HB2.out HBK.out.lt⟩, HB1.out.trans (HB2.out.mono HB1.out.size)⟩
    case round =>
      obtain ⟨k, v, hk, rfl, HN, HB⟩ := hrel
      obtain ⟨A, cap, rfl, _, _, _⟩ := own_src HN.out.own
      obtain ⟨c0, c1, c2, c3, c4, f0, f1, f2, f3, f4⟩ := facts5 HN.out.blk
      have hgl := HN.out.blk.lt
      by_cases hkm : k < 0
      · exact absurd hkm (by omega)
      · obtain rfl : k = 0 := by omega
        go_wp2_with fail
        go_ret
        refine ⟨_, rfl, ⟨?_, fun s hs => ?_, ⟨by show (-1 : Int) ≤ -1; omega, by show (-1 : Int) ≤ 9223372036854775807; omega⟩, HN.out.far, ?_, 0, 0, HN.out.blk⟩, HB.out, fun y hy => ?_⟩
        · show (List.replicate _ _).length ≤ 4096
          rw [List.length_replicate]
          exact most_le _
        · have : s = Pl.Sec.empty := List.eq_of_mem_replicate hs
          rw [this]
          exact ⟨by simp [Pl.Sec.empty, Pl.zeros], by simp [Pl.Sec.empty, Pl.zeros]⟩
        · show World.ownsRow _ 0 _ 5 _ (List.replicate _ _).length (secsCells (List.replicate _ _))
          rw [HM.out, List.length_replicate]
          exact own_low HN.out.own (Nat.zero_le _)
        · rcases hy with rfl | hy
          · exact Nat.le_refl _
          · have := (HN.out.own.lt y hy).1
            omega
  · by_cases h2 : 4096 < n
    · have HM : Hid (Pl.most n = 4096) := by unfold Pl.most; rw [Hid, if_neg h1, if_pos h2]
      go_enter Tryd.func14, Tryd.ntmps14
      go_wp2_with fail
      go_loopw [5] (fun i W => ∃ (k : Nat) (v : Value), k ≤ 4096 ∧ i = .int .i64 (k : Int) ∧ Hid (NewAt W w.heap.size v k) ∧ Hid (Below w.heap.size w W)) (fun i _ => 4096 - (intOf i).toNat)
      case atStart =>
        refine ⟨0, .slice none 0 0, Nat.zero_le _, rfl, ⟨(fun e => by cases e), World.ownsRow_nil _ _ _ _, HBK.out.below HB2.out HBK.out.lt⟩, HB1.out.trans (HB2.out.mono HB1.out.size)⟩
      case round =>
        obtain ⟨k, v, hk, rfl, HN, HB⟩ := hrel
        obtain ⟨A, cap, rfl, _, _, _⟩ := own_src HN.out.own
        obtain ⟨c0, c1, c2, c3, c4, f0, f1, f2, f3, f4⟩ := facts5 HN.out.blk
        have hgl := HN.out.blk.lt
        by_cases hkm : k < 4096
        · have h63 : Hid (k + 1 ≤ maxLen) := by rw [Hid]; simp only [maxLen]; omega
          have hroom := Lib.hid (sector_room (n := k) (m := 1) (by omega))
          clear c1 c2 c3 c4 f1 f2 f3 f4
          go_wp2_with (at_builtin
                       obtain ⟨w3, hw3⟩ : ∃ w3, wr.alloc (.cells #[.string Z, .string Z, .bool false, .bool false, .bool false] 92) = w3 := ⟨_, rfl⟩
                       have hb3 : Below wr.heap.size wr w3 := by rw [← hw3]; exact (Below.refl _ _).alloc (Nat.le_refl _) _
                       have HSR3 : Hid (Src w3 (some ⟨wr.heap.size, 0, none⟩) (secCells Pl.Sec.empty)) := by
                         rw [Hid, ← hw3]
                         have : secCells Pl.Sec.empty = [.string Z, .string Z, .bool false, .bool false, .bool false] := by rw [← HZ.out]; rfl
                         rw [this]
                         exact Src.of_blk (Blk.new wr 92 _)
                       have HB3 := Lib.hid hb3
                       have hs3 := hb3.size
                       rw [hw3]
                       clear hb3 hw3
                       refine wpList_append_src _ rfl (.tmp 23) (.tmp 27) 88 rfl (w.heap.size + 1) 92 i0 _ 5 40 Tryd.underlying88 HI.out.1 HI.out.2.1 HI.out.2.2.1 HI.out.2.2.2 rfl (by decide) (.slice A k cap) k (secsCells (List.replicate k Pl.Sec.empty)) rfl (own_below HN.out.own HB3.out) (some ⟨wr.heap.size, 0, none⟩) 1 1 (secCells Pl.Sec.empty) rfl rfl HSR3.out (by intro u hu; exact secsCells_one [Pl.Sec.empty] u (by simpa [secsCells] using hu)) h63.out hroom.out (by omega) ?_
                       intro v4 w4 hown4 hgrow4 hat4
                       have hbk4 := (HN.out.blk.below HB3.out HN.out.blk.lt).grown hgrow4 (fun e => HN.out.far e.symm)
                       have hown5 : w4.ownsRow (w.heap.size + 1) 92 5 v4 (k + 1) (secsCells (List.replicate (k + 1) Pl.Sec.empty)) := by rw [new_secs]; exact hown4
                       have HBK4 := Lib.hid hbk4
                       have HO4 := Lib.hid hown5
                       have HB4 : Hid (Below w.heap.size w w4) := (HB.out.trans (HB3.out.mono HB.out.size)).grown hgrow4 (by omega) (fun y hy => by have := (HN.out.own.lt y hy).1; omega)
                       obtain ⟨x0, _, _, _, _, y0, _, _, _, _⟩ := facts5 hbk4
                       obtain ⟨A4, cap4, rfl, _, _, _⟩ := own_src hown4
                       clear hown4 hgrow4 hat4 hbk4 hown5)
          have hfar : ∀ x, (Value.slice A4 (k + 1) cap4).ownBlock = some x → x ≠ w.heap.size := fun x hx => by have := (HO4.out.lt x hx).1; omega
          refine ⟨⟨k + 1, .slice A4 (k + 1) cap4, by omega, by go_num, ⟨fun e => hfar _ e rfl, ?_, HBK4.out.set_ 0 _⟩, HB4.out.setCell (p := ⟨w.heap.size, 0, none⟩) (Nat.le_refl _) _⟩, by simp [intOf]; omega⟩
          exact Only.own ((Only.refl (· = w.heap.size) w4).setCell (p := ⟨w.heap.size, 0, none⟩) (.inl rfl) _) HO4.out (fun y hy e => hfar y hy e)
        · obtain rfl : k = 4096 := by omega
          go_wp2_with fail
          go_ret
          refine ⟨_, rfl, ⟨?_, fun s hs => ?_, ⟨by show (-1 : Int) ≤ -1; omega, by show (-1 : Int) ≤ 9223372036854775807; omega⟩, HN.out.far, ?_, 0, 0, HN.out.blk⟩, HB.out, fun y hy => ?_⟩
          · show (List.replicate _ _).length ≤ 4096
            rw [List.length_replicate]
            exact most_le _
          · have : s = Pl.Sec.empty := List.eq_of_mem_replicate hs
            rw [this]
            exact ⟨by simp [Pl.Sec.empty, Pl.zeros], by simp [Pl.Sec.empty, Pl.zeros]⟩
          · show World.ownsRow _ 0 _ 5 _ (List.replicate _ _).length (secsCells (List.replicate _ _))
            rw [HM.out, List.length_replicate]
            exact own_low HN.out.own (Nat.zero_le _)
          · rcases hy with rfl | hy
            · exact Nat.le_refl _
            · have := (HN.out.own.lt y hy).1
              omega
    · obtain ⟨m, rfl⟩ : ∃ m : Nat, n = m := ⟨n.toNat, by omega⟩
      have HM : Hid (Pl.most (m : Int) = m) := by unfold Pl.most; rw [Hid, if_neg h1, if_neg h2]; omega
      go_enter Tryd.func14, Tryd.ntmps14
      go_wp2_with fail
      go_loopw [5] (fun i W => ∃ (k : Nat) (v : Value), k ≤ m ∧ i = .int .i64 (k : Int) ∧ Hid (NewAt W w.heap.size v k) ∧ Hid (Below w.heap.size w W)) (fun i _ => m - (intOf i).toNat)
      case atStart =>
        refine ⟨0, .slice none 0 0, Nat.zero_le _, rfl, ⟨(fun e => by cases e), World.ownsRow_nil _ _ _ _, HBK.out.below HB2.out HBK.out.lt⟩, HB1.out.trans (HB2.out.mono HB1.out.size)⟩
      case round =>
        obtain ⟨k, v, hk, rfl, HN, HB⟩ := hrel
        obtain ⟨A, cap, rfl, _, _, _⟩ := own_src HN.out.own
        obtain ⟨c0, c1, c2, c3, c4, f0, f1, f2, f3, f4⟩ := facts5 HN.out.blk
        have hgl := HN.out.blk.lt
        by_cases hkm : k < m
        · have h63 : Hid (k + 1 ≤ maxLen) := by rw [Hid]; simp only [maxLen]; omega
          have hroom := Lib.hid (sector_room (n := k) (m := 1) (by omega))
          clear c1 c2 c3 c4 f1 f2 f3 f4
          go_wp2_with (at_builtin
                       obtain ⟨w3, hw3⟩ : ∃ w3, wr.alloc (.cells #[.string Z, .string Z, .bool false, .bool false, .bool false] 92) = w3 := ⟨_, rfl⟩
                       have hb3 : Below wr.heap.size wr w3 := by rw [← hw3]; exact (Below.refl _ _).alloc (Nat.le_refl _) _
                       have HSR3 : Hid (Src w3 (some ⟨wr.heap.size, 0, none⟩) (secCells Pl.Sec.empty)) := by
                         rw [Hid, ← hw3]
                         have : secCells Pl.Sec.empty = [.string Z, .string Z, .bool false, .bool false, .bool false] := by rw [← HZ.out]; rfl
                         rw [this]
                         exact Src.of_blk (Blk.new wr 92 _)
                       have HB3 := Lib.hid hb3
                       have hs3 := hb3.size
                       rw [hw3]
                       clear hb3 hw3
                       refine wpList_append_src _ rfl (.tmp 23) (.tmp 27) 88 rfl (w.heap.size + 1) 92 i0 _ 5 40 Tryd.underlying88 HI.out.1 HI.out.2.1 HI.out.2.2.1 HI.out.2.2.2 rfl (by decide) (.slice A k cap) k (secsCells (List.replicate k Pl.Sec.empty)) rfl (own_below HN.out.own HB3.out) (some ⟨wr.heap.size, 0, none⟩) 1 1 (secCells Pl.Sec.empty) rfl rfl HSR3.out (by intro u hu; exact secsCells_one [Pl.Sec.empty] u (by simpa [secsCells] using hu)) h63.out hroom.out (by omega) ?_
                       intro v4 w4 hown4 hgrow4 hat4
                       have hbk4 := (HN.out.blk.below HB3.out HN.out.blk.lt).grown hgrow4 (fun e => HN.out.far e.symm)
                       have hown5 : w4.ownsRow (w.heap.size + 1) 92 5 v4 (k + 1) (secsCells (List.replicate (k + 1) Pl.Sec.empty)) := by rw [new_secs]; exact hown4
                       have HBK4 := Lib.hid hbk4
                       have HO4 := Lib.hid hown5
                       have HB4 : Hid (Below w.heap.size w w4) := (HB.out.trans (HB3.out.mono HB.out.size)).grown hgrow4 (by omega) (fun y hy => by have := (HN.out.own.lt y hy).1; omega)
                       obtain ⟨x0, _, _, _, _, y0, _, _, _, _⟩ := facts5 hbk4
                       obtain ⟨A4, cap4, rfl, _, _, _⟩ := own_src hown4
                       clear hown4 hgrow4 hat4 hbk4 hown5)
          have hfar : ∀ x, (Value.slice A4 (k + 1) cap4).ownBlock = some x → x ≠ w.heap.size := fun x hx => by have := (HO4.out.lt x hx).1; omega
          refine ⟨⟨k + 1, .slice A4 (k + 1) cap4, by omega, by go_num, ⟨fun e => hfar _ e rfl, ?_, HBK4.out.set_ 0 _⟩, HB4.out.setCell (p := ⟨w.heap.size, 0, none⟩) (Nat.le_refl _) _⟩, by simp [intOf]; omega⟩
          exact Only.own ((Only.refl (· = w.heap.size) w4).setCell (p := ⟨w.heap.size, 0, none⟩) (.inl rfl) _) HO4.out (fun y hy e => hfar y hy e)
        · obtain rfl : k = m := by omega
          go_wp2_with fail
          go_ret
          refine ⟨_, rfl, ⟨?_, fun s hs => ?_, ⟨by show (-1 : Int) ≤ -1; omega, by show (-1 : Int) ≤ 9223372036854775807; omega⟩, HN.out.far, ?_, 0, 0, HN.out.blk⟩, HB.out, fun y hy => ?_⟩
          · show (List.replicate _ _).length ≤ 4096
            rw [List.length_replicate]
            exact most_le _
          · have : s = Pl.Sec.empty := List.eq_of_mem_replicate hs
            rw [this]
            exact ⟨by simp [Pl.Sec.empty, Pl.zeros], by simp [Pl.Sec.empty, Pl.zeros]⟩
          · show World.ownsRow _ 0 _ 5 _ (List.replicate _ _).length (secsCells (List.replicate _ _))
            rw [HM.out, List.length_replicate]
            exact own_low HN.out.own (Nat.zero_le _)
          · rcases hy with rfl | hy
            · exact Nat.le_refl _
            · have := (HN.out.own.lt y hy).1
              omega
end Go.Proofs.YtljmklohgpaopaaDoor

namespace Go.Proofs.YtljmklohgpaopaaDoor
open Go.RowKit

/-- The cells of the harness's log. -/
def xCells (g gl : Nat) (l : Pl.Lg) (vall vb : Value) : List Value := [.pointer (some ⟨g, 0, none⟩), .pointer (some ⟨gl, 0, none⟩), .int .i64 (l.first : Nat), .int .i64 (l.data + 2 : Nat), vall, vb, .slice none 0 0, .slice none 0 0, .slice none 0 0, .slice none 0 0]
/-- The harness's log, with what it must have, and its book. -/
structure XAt (B : Nat) (w : World) (gx g gl : Nat) (v va vall vb : Value) (vs bs : List Value) (d : Pl.Dk) (rd : Int) (l : Pl.Lg) (ss : List ByteArray) : Prop where
  blk : Blk w gx 54 (xCells g gl l vall vb)
  log : LogSt w gl g v va vs d rd l
  all : w.ownsRow B 9 1 vall ss.length (sv ss)
  same : bl ss = l.all
  book : BookRows w B vb bs
  low : B ≤ gx ∧ ∀ k, lFa gl g v va k → B ≤ k
  apart : ∀ k, va.ownBlock = some k → vb.ownBlock ≠ some k
theorem XAt.below {B : Nat} {w w' : World} {gx g gl : Nat} {v va vall vb : Value} {vs bs : List Value} {d : Pl.Dk} {rd : Int} {l : Pl.Lg} {ss : List ByteArray} (h : XAt B w gx g gl v va vall vb vs bs d rd l ss) (hb : Below w.heap.size w w') : XAt B w' gx g gl v va vall vb vs bs d rd l ss :=
  ⟨h.blk.below hb h.blk.lt, h.log.below hb, own_below h.all hb, h.same, h.book.below hb, h.low, h.apart⟩
/-- The book's cells alone are written. -/
def bookF (gx : Nat) (vb : Value) (x : Nat) : Prop := x = gx ∨ vb.ownBlock = some x
theorem bookF_kinds {w : World} {B gx n : Nat} {vb : Value} {xs cs : List Value} (hX : Blk w gx 54 cs) (hb : w.ownsRow B 23 1 vb n xs) : Kinds (bookF gx vb) w [54, 23] := by
  rintro x (rfl | hx)
  · exact ⟨_, by simp, hX.typ⟩
  · exact ⟨_, by simp, own_typ hb hx⟩
theorem LogSt.onlyX {w w' : World} {gx gl g B n : Nat} {v va vb : Value} {vs xs cs : List Value} {d : Pl.Dk} {rd : Int} {l : Pl.Lg} (h : LogSt w gl g v va vs d rd l) (ho : Only (bookF gx vb) w w') (hX : Blk w gx 54 cs) (hb : w.ownsRow B 23 1 vb n xs) (hap : ∀ k, va.ownBlock = some k → vb.ownBlock ≠ some k) : LogSt w' gl g v va vs d rd l := by
  have hk := bookF_kinds hX hb
  refine ⟨h.disk.onlyT ho hk (by decide) (by decide), h.cells.only ho hk (by decide), ⟨ho.own h.rows.own (fun k hk' e => ?_), fun k u x hu hx => ho.own_ hk (h.rows.each k u x hu hx) (by decide)⟩⟩
  rcases e with e | e
  · subst e
    have := (own_typ h.rows.own hk').uniq hX.typ
    revert this
    decide
  · exact hap k hk' e

/-- How far same is. -/
structure SameAt (B : Nat) (w w1 W : World) (gx g gl : Nat) (vall vb vo vbk : Value) (bs vs' : List Value) (l : Pl.Lg) (k : Nat) (news : List Value) : Prop where
  blk : Blk W gx 54 (xCells g gl l vall vbk)
  book : BookRows W B vbk (bs ++ news)
  count : news.length = k
  rest : ∀ (j : Nat) (u : Value) (x : List UInt8), k ≤ j → vs'[j]? = some u → l.all[j]? = some x → W.ownsRow w.heap.size 5 1 u x.length (bv x)
  row : W.ownsRow w.heap.size 23 1 vo l.all.length vs'
  done : ∀ u ∈ news, ∀ x, u.ownBlock = some x → ∃ j y, j < k ∧ vs'[j]? = some y ∧ y.ownBlock = some x
  only : Only (bookF gx vb) w W
  size : w1.heap.size ≤ W.heap.size
  vb_ : ∀ x, vbk.ownBlock = some x → vb.ownBlock = some x ∨ w1.heap.size ≤ x

theorem pair_at {P : Value → Value → Prop} : ∀ {l : List Value}, l.Pairwise P → ∀ {i j : Nat} {a b : Value}, l[i]? = some a → l[j]? = some b → i < j → P a b
  | [], _, i, j, a, b, h1, _, _ => by simp at h1
  | x :: r, h, i, j, a, b, h1, h2, hij => by
    rw [List.pairwise_cons] at h
    match i, j with
    | 0, j + 1 =>
      simp at h1 h2
      subst h1
      exact h.1 b (List.mem_of_getElem? h2)
    | i + 1, j + 1 => exact pair_at h.2 (by simpa using h1) (by simpa using h2) (by omega)
theorem own_bytes {w : World} {base n g cap : Nat} {l : List UInt8} (h : w.ownsRow base 5 1 (.slice (some ⟨g, 0, none⟩) n cap) n (bv l)) : BytesAt w (some ⟨g, 0, none⟩) l :=
  .inr ⟨g, 0, rfl, fun i hi => by rw [Nat.zero_add]; exact own_at h i _ (getb l i hi)⟩
theorem SameAt.below {B : Nat} {w w1 W W' : World} {gx g gl k : Nat} {vall vb vo vbk : Value} {bs vs' news : List Value} {l : Pl.Lg} (h : SameAt B w w1 W gx g gl vall vb vo vbk bs vs' l k news) (hb : Below W.heap.size W W') : SameAt B w w1 W' gx g gl vall vb vo vbk bs vs' l k news :=
  ⟨h.blk.below hb h.blk.lt, h.book.below hb, h.count, fun j u x h1 h2 h3 => own_below (h.rest j u x h1 h2 h3) hb, own_below h.row hb, h.done, h.only.below hb, Nat.le_trans h.size hb.size, h.vb_⟩
theorem only_below {F : Nat → Prop} {a b : World} {B : Nat} (ho : Only F a b) (hF : ∀ k, F k → B ≤ k) (hB : B ≤ a.heap.size) : Below B a b :=
  ⟨ho.os, ho.tape, ho.output, ho.size, fun k hk => ho.block k (by omega) (fun hf => by have := hF k hf; omega)⟩
/-- What own asks. -/
theorem SameAt.apart {B : Nat} {w w1 W : World} {gx g gl k : Nat} {vall vb vo vbk u : Value} {bs vs' news : List Value} {l : Pl.Lg} {x : List UInt8} (h : SameAt B w w1 W gx g gl vall vb vo vbk bs vs' l k news) (hout : OutAt w1 w.heap.size vo vs' l.all) (hb0 : BookRows w B vb bs) (hu : vs'[k]? = some u) (hx : l.all[k]? = some x) :
    ∀ u' ∈ bs ++ news, ∀ y, u.ownBlock = some y → u'.ownBlock ≠ some y := by
  intro u' hu' y hy e
  have h1 := ((hout.each k u x hu hx).lt y hy).1
  rcases List.mem_append.1 hu' with hm | hm
  · have := (hb0.lt y (.inr ⟨u', hm, e⟩)).2
    omega
  · obtain ⟨j, y', hj, hy', he⟩ := h.done u' hm y e
    exact pair_at hout.apart hy' hu hj y he hy
theorem SameAt.next {B : Nat} {w w1 W W' : World} {gx g gl k : Nat} {vall vb vo vbk u : Value} {bs vs' news : List Value} {l : Pl.Lg} {x : List UInt8} {e : Ending} (h : SameAt B w w1 W gx g gl vall vb vo vbk bs vs' l k news) (hout : OutAt w1 w.heap.size vo vs' l.all) (hs : w.heap.size ≤ w1.heap.size) (hvb0 : ∀ q, vb.ownBlock = some q → B ≤ q ∧ q < w.heap.size) (hu : vs'[k]? = some u) (hx : l.all[k]? = some x)
    (hp : OwnPost gx 5 B 54 (xCells g gl l vall vbk) u vbk (bs ++ news) W e W') : e = .returned (.tuple #[]) ∧ ∃ vbk' news', SameAt B w w1 W' gx g gl vall vb vo vbk' bs vs' l (k + 1) news' := by
  obtain ⟨vb', v', he, hbk, hblk, hvu, hvb, ho⟩ := hp
  refine ⟨he, vb', news ++ [v'], hblk, by rw [← List.append_assoc]; exact hbk, by simp [h.count], fun j y z hj hy hz => ?_, ?_, fun y hy z hz => ?_, ?_, Nat.le_trans h.size ho.size, fun y hy => ?_⟩
  · have hr := h.rest j y z (by omega) hy hz
    refine ho.own hr (fun q hq e => ?_)
    rcases e with e | e | e
    · subst e
      have := (own_typ hr hq).uniq h.blk.typ
      revert this
      decide
    · have := (own_typ hr hq).uniq (own_typ h.book.own e)
      revert this
      decide
    · exact pair_at hout.apart hu hy (by omega) q e hq
  · refine ho.own h.row (fun q hq e => ?_)
    have hq1 := (hout.own.lt q hq)
    rcases e with e | e | e
    · subst e
      have := (own_typ h.row hq).uniq h.blk.typ
      revert this
      decide
    · rcases h.vb_ q e with e' | e'
      · have := (hvb0 q e').2
        omega
      · omega
    · have := (own_typ h.row hq).uniq (own_typ (h.rest k u x (Nat.le_refl _) hu hx) e)
      revert this
      decide
  · rcases List.mem_append.1 hy with hm | hm
    · obtain ⟨j, y', h1, h2, h3⟩ := h.done y hm z hz
      exact ⟨j, y', by omega, h2, h3⟩
    · rw [List.mem_singleton] at hm
      subst hm
      exact ⟨k, u, by omega, hu, by rw [← hvu]; exact hz⟩
  · refine h.only.trans ho (fun q hq e => ?_)
    rcases e with e | e | e
    · exact .inl e
    · rcases h.vb_ q e with e' | e'
      · exact .inr e'
      · omega
    · have := ((hout.each k u x hu hx).lt q e).1
      omega
  · rcases hvb with e | e
    · exact h.vb_ y (by rw [← e]; exact hy)
    · exact .inr (Nat.le_trans h.size (e y hy))

end Go.Proofs.YtljmklohgpaopaaDoor

namespace Go.Proofs.YtljmklohgpaopaaDoor
open Go.RowKit

/-- The harness's log, whatever it must have. -/
structure XCore (B : Nat) (w : World) (gx g gl : Nat) (v va vall vb : Value) (vs bs : List Value) (d : Pl.Dk) (rd : Int) (l : Pl.Lg) (ss : List ByteArray) : Prop where
  blk : Blk w gx 54 (xCells g gl l vall vb)
  log : LogSt w gl g v va vs d rd l
  all : w.ownsRow B 9 1 vall ss.length (sv ss)
  book : BookRows w B vb bs
  low : B ≤ gx ∧ ∀ k, lFa gl g v va k → B ≤ k
  apart : ∀ k, va.ownBlock = some k → vb.ownBlock ≠ some k
theorem XCore.at_ {B : Nat} {w : World} {gx g gl : Nat} {v va vall vb : Value} {vs bs : List Value} {d : Pl.Dk} {rd : Int} {l : Pl.Lg} {ss : List ByteArray} (h : XCore B w gx g gl v va vall vb vs bs d rd l ss) (hs : bl ss = l.all) : XAt B w gx g gl v va vall vb vs bs d rd l ss := ⟨h.blk, h.log, h.all, hs, h.book, h.low, h.apart⟩
theorem XCore.below {B : Nat} {w w' : World} {gx g gl : Nat} {v va vall vb : Value} {vs bs : List Value} {d : Pl.Dk} {rd : Int} {l : Pl.Lg} {ss : List ByteArray} (h : XCore B w gx g gl v va vall vb vs bs d rd l ss) (hb : Below w.heap.size w w') : XCore B w' gx g gl v va vall vb vs bs d rd l ss :=
  ⟨h.blk.below hb h.blk.lt, h.log.below hb, own_below h.all hb, h.book.below hb, h.low, h.apart⟩
/-- The log is written. -/
theorem XCore.put {B : Nat} {w w' : World} {gx g gl : Nat} {v va va' vall vb : Value} {vs vs' bs : List Value} {d d' : Pl.Dk} {rd rd' : Int} {l l' : Pl.Lg} {ss : List ByteArray} (h : XCore B w gx g gl v va vall vb vs bs d rd l ss) (hst : LogSt w' gl g v va' vs' d' rd' l') (hsep : Sep w va va') (ho : Only (lFa gl g v va) w w') (hf : l'.first = l.first) (hd : l'.data = l.data) (hB : B ≤ w.heap.size) :
    XCore B w' gx g gl v va' vall vb vs' bs d' rd' l' ss := by
  have hk := h.log.kinds
  refine ⟨?_, hst, ho.own_ hk h.all (by decide), ⟨ho.own h.book.own (fun q hq e => ?_), fun i u hu => ?_⟩, ⟨h.low.1, fun q hq => ?_⟩, fun q hq e => ?_⟩
  · have := ho.blk_ hk h.blk (by decide)
    unfold xCells at this ⊢
    rw [hf, hd]
    exact this
  · rcases e with e | e
    · obtain ⟨t, h1, h2⟩ := lF_kinds h.log.disk h.log.cells q e
      have := (own_typ h.book.own hq).uniq h2
      subst this
      revert h1
      decide
    · exact h.apart q e hq
  · obtain ⟨c, hc⟩ := h.book.each i u hu
    exact ⟨c, ho.own_ hk hc (by decide)⟩
  · rcases hq with hq | hq
    · exact h.low.2 q (.inl hq)
    · rcases hsep q hq with e | e
      · exact h.low.2 q (.inr e)
      · omega
  · rcases hsep q hq with e' | e'
    · exact h.apart q e' e
    · have := (h.book.lt q (.inl e)).2
      omega

theorem pow8 : (256 : Nat) ^ 8 = 18446744073709551616 := by decide
/-- What it must have is laid anew. -/
theorem XCore.setAll {B : Nat} {w : World} {gx g gl : Nat} {v va vall vb : Value} {vs bs : List Value} {d : Pl.Dk} {rd : Int} {l : Pl.Lg} {ss : List ByteArray} (h : XCore B w gx g gl v va vall vb vs bs d rd l ss) (vall' : Value) (ss' : List ByteArray) (hown : w.ownsRow B 9 1 vall' ss'.length (sv ss')) :
    XCore B (w.setCell ⟨gx, 4, none⟩ vall') gx g gl v va vall' vb vs bs d rd l ss' := by
  have ho : Only (· = gx) w (w.setCell ⟨gx, 4, none⟩ vall') := (Only.refl (· = gx) w).setCell (p := ⟨gx, 4, none⟩) (.inl rfl) _
  have hk : Kinds (· = gx) w [54] := fun x hx => by
    rw [hx]
    exact ⟨_, by simp, h.blk.typ⟩
  exact ⟨h.blk.set_ 4 _, h.log.onlyT ho hk (by decide) (by decide) (by decide) (by decide) (by decide), ho.own_ hk hown (by decide), ⟨ho.own_ hk h.book.own (by decide), fun i u hu => by
    obtain ⟨c, hc⟩ := h.book.each i u hu
    exact ⟨c, ho.own_ hk hc (by decide)⟩⟩, h.low, h.apart⟩

end Go.Proofs.YtljmklohgpaopaaDoor

namespace Go.Proofs.YtljmklohgpaopaaDoor
open Go.RowKit

end Go.Proofs.YtljmklohgpaopaaDoor

namespace Go.Proofs.YtljmklohgpaopaaDoor
open Go.RowKit

end Go.Proofs.YtljmklohgpaopaaDoor

namespace Go.Proofs.YtljmklohgpaopaaDoor
open Go.RowKit

theorem Tryd.infoString : (Tryd.prog.info? 9).map (fun i => (i.zero, i.size, i.bytes)) = some (some (.string ⟨#[]⟩), 1, 16) := by kernel_rfl
theorem string_room {n m : Nat} (h : n + m ≤ 4398046511104) : ∀ old, old < n + m → Builtin.nextslicecap (n + m) old * 16 ≤ 281474976710656 := by
  intro old ho
  have := nextslicecap_le54 ho
  omega
/-- What it must have has grown. -/
theorem XCore.grewAll {B : Nat} {w w' : World} {gx g gl : Nat} {v va vall vb v8 : Value} {vs bs : List Value} {d : Pl.Dk} {rd : Int} {l : Pl.Lg} {ss ss' : List ByteArray} (h : XCore B w gx g gl v va vall vb vs bs d rd l ss) (hg : w.grownBy w' vall.ownBlock) (hown : w'.ownsRow B 9 1 v8 ss'.length (sv ss')) :
    XCore B (w'.setCell ⟨gx, 4, none⟩ v8) gx g gl v va v8 vb vs bs d rd l ss' ∧ Blk w' gx 54 (xCells g gl l vall vb) ∧ Only (fun x => vall.ownBlock = some x) w w' := by
  have ho : Only (fun x => vall.ownBlock = some x) w w' := Only.of_grown_own hg
  have hk : Kinds (fun x => vall.ownBlock = some x) w [9] := fun x hx => ⟨_, by simp, own_typ h.all hx⟩
  have hb := ho.blk_ hk h.blk (by decide)
  have hlog : LogSt w' gl g v va vs d rd l := h.log.onlyT ho hk (by decide) (by decide) (by decide) (by decide) (by decide)
  have ho2 : Only (· = gx) w' (w'.setCell ⟨gx, 4, none⟩ v8) := (Only.refl (· = gx) w').setCell (p := ⟨gx, 4, none⟩) (.inl rfl) _
  have hk2 : Kinds (· = gx) w' [54] := fun x hx => by
    rw [hx]
    exact ⟨_, by simp, hb.typ⟩
  exact ⟨⟨hb.set_ 4 _, hlog.onlyT ho2 hk2 (by decide) (by decide) (by decide) (by decide) (by decide), ho2.own_ hk2 hown (by decide), ⟨ho2.own_ hk2 (ho.own_ hk h.book.own (by decide)) (by decide), fun i u hu => by
    obtain ⟨c, hc⟩ := h.book.each i u hu
    exact ⟨c, ho2.own_ hk2 (ho.own_ hk hc (by decide)) (by decide)⟩⟩, h.low, h.apart⟩, hb, ho⟩

end Go.Proofs.YtljmklohgpaopaaDoor
