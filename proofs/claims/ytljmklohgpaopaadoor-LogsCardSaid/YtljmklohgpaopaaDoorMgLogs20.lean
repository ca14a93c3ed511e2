/- The harness's step on a log: what is kept; the steps Sync, Reset, and none. The harness's step on a log: no step, and Append. The harness's step on a log: Append. -/
import Derived.Test.YtljmklohgpaopaaDoorMgLogs19

namespace Go.Proofs.YtljmklohgpaopaaDoor
open Go.RowKit

/-- The harness's log, whatever it must have. -/
structure XCore (B : Nat) (w : World) (gx g gl : Nat) (v va vall vb : Value) (vs bs : List Value) (d : Pl.Dk) (rd : Int) (l : Pl.Lg) (ss : List ByteArray) : Prop where
  blk : Blk w gx 54 (xCells g gl l vall vb)
  log : LogSt w gl g v va vs d rd l
  all : w.ownsRow B 9 1 vall ss.length (sv ss)
  book : BookRows w B vb bs
  low : B ≤ gx ∧ ∀ k, lFa gl g v va k → B ≤ k
  apart : ∀ k, va.ownBlock = some k → vb.ownBlock ≠ some k
theorem XAt.core {B : Nat} {w : World} {gx g gl : Nat} {v va vall vb : Value} {vs bs : List Value} {d : Pl.Dk} {rd : Int} {l : Pl.Lg} {ss : List ByteArray} (h : XAt B w gx g gl v va vall vb vs bs d rd l ss) : XCore B w gx g gl v va vall vb vs bs d rd l ss := ⟨h.blk, h.log, h.all, h.book, h.low, h.apart⟩
theorem XCore.at_ {B : Nat} {w : World} {gx g gl : Nat} {v va vall vb : Value} {vs bs : List Value} {d : Pl.Dk} {rd : Int} {l : Pl.Lg} {ss : List ByteArray} (h : XCore B w gx g gl v va vall vb vs bs d rd l ss) (hs : bl ss = l.all) : XAt B w gx g gl v va vall vb vs bs d rd l ss := ⟨h.blk, h.log, h.all, hs, h.book, h.low, h.apart⟩
theorem XCore.below {B : Nat} {w w' : World} {gx g gl : Nat} {v va vall vb : Value} {vs bs : List Value} {d : Pl.Dk} {rd : Int} {l : Pl.Lg} {ss : List ByteArray} (h : XCore B w gx g gl v va vall vb vs bs d rd l ss) (hb : Below w.heap.size w w') : XCore B w' gx g gl v va vall vb vs bs d rd l ss :=
  ⟨h.blk.below hb h.blk.lt, h.log.below hb, own_below h.all hb, h.book.below hb, h.low, h.apart⟩
/-- The log is written. -/
theorem XCore.put {B : Nat} {w w' : World} {gx g gl : Nat} {v va va' vall vb : Value} {vs vs' bs : List Value} {d d' : Pl.Dk} {rd rd' : Int} {l l' : Pl.Lg} {ss : List ByteArray} (h : XCore B w gx g gl v va vall vb vs bs d rd l ss) (hst : LogSt w' gl g v va' vs' d' rd' l') (hsep : Sep w va va') (ho : Only (lFa gl g v va) w w') (hf : l'.first = l.first) (hd : l'.data = l.data) (hB : B ≤ w.heap.size) :
    XCore B w' gx g gl v va' vall vb vs' bs d' rd' l' ss := by
  have hk := h.log.kinds
  refine ⟨?_, hst, ho.own_ hk h.all (by decide), ⟨ho.own h.book.own (fun q hq e => ?_), fun i u hu => ?_⟩, ⟨h.low.1, fun q hq => ?_⟩, fun q hq e => ?_⟩
  · have := ho.blk_ hk h.blk (by decide)
    unfold xCells at this ⊢
    rw [hf, hd]
    exact this
  · rcases e with e | e
    · obtain ⟨t, h1, h2⟩ := lF_kinds h.log.disk h.log.cells q e
      have := (own_typ h.book.own hq).uniq h2
      subst this
      revert h1
      decide
    · exact h.apart q e hq
  · obtain ⟨c, hc⟩ := h.book.each i u hu
    exact ⟨c, ho.own_ hk hc (by decide)⟩
  · rcases hq with hq | hq
    · exact h.low.2 q (.inl hq)
    · rcases hsep q hq with e | e
      · exact h.low.2 q (.inr e)
      · omega
  · rcases hsep q hq with e' | e'
    · exact h.apart q e' e
    · have := (h.book.lt q (.inl e)).2
      omega

theorem flat_len : ∀ all : List (List UInt8), (∀ p ∈ all, 1 ≤ p.length) → all.length ≤ (Pl.flat all).length := by
  intro all
  induction all with
  | nil => intro _; exact Nat.zero_le _
  | cons a r ih =>
    intro h
    have h1 := h a (by simp)
    have h2 := ih (fun p hp => h p (by simp [hp]))
    have h3 := Pl.pieces_length a.length a (Nat.le_refl _) h1
    unfold Pl.chunks at h3
    unfold Pl.flat at h2 ⊢
    rw [List.flatMap_cons, List.length_append, List.length_cons, h3]
    omega
theorem LogOk_rows {d : Pl.Dk} {l : Pl.Lg} (h : Pl.LogOk d l) : l.all.length ≤ l.data := by
  have := flat_len l.all (fun p hp => (h.small p hp).1)
  have h1 := h.next
  have h2 := h.fit
  omega

/-- What the steps keep. -/
def XLog (B : Nat) (w : World) (gx first sectors m : Nat) : Prop :=
  ∃ g gl v va vall vb vs bs d rd l ss, XAt B w gx g gl v va vall vb vs bs d rd l ss ∧ Pl.LogOk d l ∧ l.first = first ∧ l.data + 2 = sectors ∧ bs.length ≤ 5000 * m ∧ l.epoch ≤ m + 1
def StepPost (B gx first sectors m : Nat) (w : World) (e : Ending) (w' : World) : Prop :=
  e = .returned (.bool true) ∧ XLog B w' gx first sectors (m + 1) ∧ Below B w w'
def moveV (kd n : Int) (s t : ByteArray) : Value := .agg #[.int .i64 kd, .int .i64 n, .string s, .string t]

theorem pow8 : (256 : Nat) ^ 8 = 18446744073709551616 := by decide
/-- Is an error of this kind? -/
theorem bare_same (k : Int) (w : World) : Calls Tryd.prog 12 #[.agg #[.int .i64 k, .string ⟨#[]⟩, .bool true], .int .i64 k] w fun e w' => e = .returned (.bool true) ∧ Below w.heap.size w w' := by
  refine (bare_any k k ⟨#[]⟩ w).mono ?_
  rintro e w' ⟨rfl, hb⟩
  refine ⟨?_, hb⟩
  have : (⟨#[]⟩ : ByteArray).toList.isEmpty = true := by rw [ByteArray.toList_eq]; rfl
  rw [this]
  simp
theorem bare_other (k k' : Int) (w : World) (h : k ≠ k') : Calls Tryd.prog 12 #[.agg #[.int .i64 k, .string ⟨#[]⟩, .bool true], .int .i64 k'] w fun e w' => e = .returned (.bool false) ∧ Below w.heap.size w w' := by
  refine (bare_any k k' ⟨#[]⟩ w).mono ?_
  rintro e w' ⟨rfl, hb⟩
  refine ⟨?_, hb⟩
  rw [show (k == k') = false by simpa using h]
  rfl
/-- What it must have is laid anew. -/
theorem XCore.setAll {B : Nat} {w : World} {gx g gl : Nat} {v va vall vb : Value} {vs bs : List Value} {d : Pl.Dk} {rd : Int} {l : Pl.Lg} {ss : List ByteArray} (h : XCore B w gx g gl v va vall vb vs bs d rd l ss) (vall' : Value) (ss' : List ByteArray) (hown : w.ownsRow B 9 1 vall' ss'.length (sv ss')) :
    XCore B (w.setCell ⟨gx, 4, none⟩ vall') gx g gl v va vall' vb vs bs d rd l ss' := by
  have ho : Only (· = gx) w (w.setCell ⟨gx, 4, none⟩ vall') := (Only.refl (· = gx) w).setCell (p := ⟨gx, 4, none⟩) (.inl rfl) _
  have hk : Kinds (· = gx) w [54] := fun x hx => by
    rw [hx]
    exact ⟨_, by simp, h.blk.typ⟩
  exact ⟨h.blk.set_ 4 _, h.log.onlyT ho hk (by decide) (by decide) (by decide) (by decide) (by decide), ho.own_ hk hown (by decide), ⟨ho.own_ hk h.book.own (by decide), fun i u hu => by
    obtain ⟨c, hc⟩ := h.book.each i u hu
    exact ⟨c, ho.own_ hk hc (by decide)⟩⟩, h.low, h.apart⟩

set_option maxHeartbeats 2000000 in
set_option maxRecDepth 100000 in
theorem step_sync (B gx first sectors m : Nat) (n : Int) (s t : ByteArray) (w : World) (h : XLog B w gx first sectors m) (hG : GE w) (hGB : 0 < B) (hB : B ≤ w.heap.size) (hm : m ≤ 65536) :
    Calls Tryd.prog 18 #[.pointer (some ⟨gx, 0, none⟩), moveV 2 n s t] w (StepPost B gx first sectors m w) := by
  obtain ⟨g, gl, v, va, vall, vb, vs, bs, d, rd, l, ss, hx, hok, hf, hd, hbs, hep⟩ := h
  unfold moveV
  obtain ⟨w1, hw1⟩ : ∃ w1, w.alloc (.cells #[.int .i64 2, .int .i64 n, .string s, .string t] 57) = w1 := ⟨_, rfl⟩
  have hb1 : Below w.heap.size w w1 := by rw [← hw1]; exact (Below.refl _ _).alloc (Nat.le_refl _) _
  have BM : Blk w1 w.heap.size 57 [.int .i64 2, .int .i64 n, .string s, .string t] := by rw [← hw1]; exact Blk.new w 57 _
  have cM0 := BM.cell 0
  have cM2 := BM.cell 2
  simp only [List.getElem?_cons_zero, List.getElem?_cons_succ] at cM0 cM2
  have hx1 := hx.core.below hb1
  obtain ⟨c0, c1, c2, c3, c4, c5, f0, f1, f4⟩ := facts10 hx1.blk
  have hgf : ¬ lFa gl g v va 0 := fun e => by have := hx1.low.2 _ e; omega
  obtain ⟨d', hs, hdl, hok'⟩ := hok.syncs
  have hS := pSync_any gl g v va vs d rd l w1 hx1.log (hG.below hb1) hgf
  rw [hs] at hS
  have HS := Lib.hid hS
  have HX1 := Lib.hid hx1
  have HB1 := Lib.hid hb1
  have HOK := Lib.hid hok'
  have HSM := Lib.hid hx.same
  have hs1 := hb1.size
  clear hx hb1 hx1 hS hok hok' hs hdl hG
  go_enter Tryd.func18, Tryd.ntmps18
  go_wp2_with fail
  refine HS.out.mono ?_
  rintro e w2 ⟨rfl, va', vs', hst, hsep, _, ho⟩
  have HX2 := Lib.hid (HX1.out.put hst hsep ho rfl rfl (Nat.le_trans hB hs1))
  have HB2 : Hid (Below B w w2) := (HB1.out.mono hB).trans (only_below ho HX1.out.low.2 (Nat.le_trans hB hs1))
  unfold errA
  clear hst hsep ho
  go_wp2_with fail
  refine (bare_same 0 _).mono ?_
  rintro e w3 ⟨rfl, hb3⟩
  have ha : Below w2.heap.size w2 (w2.alloc (.cells #[.int .i64 0, .string ⟨#[]⟩, .bool true] 27)) := (Below.refl _ _).alloc (Nat.le_refl _) _
  have HX3 := Lib.hid ((HX2.out.below ha).below hb3)
  have hB2 : B ≤ w2.heap.size := Nat.le_trans hB HB2.out.size
  have HB3 : Hid (Below B w w3) := HB2.out.trans ((ha.mono hB2).trans (hb3.mono (Nat.le_trans hB2 ha.size)))
  clear hb3 ha
  go_wp2_with fail
  go_ret
  exact ⟨rfl, ⟨g, gl, v, va', vall, vb, vs', bs, d', rd, l, ss, HX3.out.at_ HSM.out, HOK.out, hf, hd, by omega, by omega⟩, HB3.out⟩

set_option maxHeartbeats 2000000 in
set_option maxRecDepth 100000 in
theorem step_reset (B gx first sectors m : Nat) (n : Int) (s t : ByteArray) (w : World) (h : XLog B w gx first sectors m) (hG : GE w) (hGB : 0 < B) (hB : B ≤ w.heap.size) (hm : m ≤ 65536) :
    Calls Tryd.prog 18 #[.pointer (some ⟨gx, 0, none⟩), moveV 4 n s t] w (StepPost B gx first sectors m w) := by
  obtain ⟨g, gl, v, va, vall, vb, vs, bs, d, rd, l, ss, hx, hok, hf, hd, hbs, hep⟩ := h
  unfold moveV
  obtain ⟨w1, hw1⟩ : ∃ w1, w.alloc (.cells #[.int .i64 4, .int .i64 n, .string s, .string t] 57) = w1 := ⟨_, rfl⟩
  have hb1 : Below w.heap.size w w1 := by rw [← hw1]; exact (Below.refl _ _).alloc (Nat.le_refl _) _
  have BM : Blk w1 w.heap.size 57 [.int .i64 4, .int .i64 n, .string s, .string t] := by rw [← hw1]; exact Blk.new w 57 _
  have cM0 := BM.cell 0
  have cM2 := BM.cell 2
  simp only [List.getElem?_cons_zero, List.getElem?_cons_succ] at cM0 cM2
  have hx1 := hx.core.below hb1
  obtain ⟨c0, c1, c2, c3, c4, c5, f0, f1, f4⟩ := facts10 hx1.blk
  have hgf : ¬ lFa gl g v va 0 := fun e => by have := hx1.low.2 _ e; omega
  have hroom := hok.room
  have hep' : l.epoch + 1 < 256 ^ 8 := by have := pow8; omega
  obtain ⟨d', hs, hdl, hok'⟩ := hok.resets hep'
  have hS := pReset_any gl g v va vs d rd l w1 hx1.log (hG.below hb1) hgf (by omega) (by have := pow8; omega)
  rw [hs] at hS
  have HS := Lib.hid hS
  have HX1 := Lib.hid hx1
  have HB1 := Lib.hid hb1
  have HOK := Lib.hid hok'
  have HSM := Lib.hid hx.same
  have hs1 := hb1.size
  clear hx hb1 hx1 hS hok hok' hs hdl hG
  go_enter Tryd.func18, Tryd.ntmps18
  go_wp2_with fail
  refine HS.out.mono ?_
  rintro e w2 ⟨rfl, va', vs', hst, hsep, _, ho⟩
  have HX2 := Lib.hid (HX1.out.put hst hsep ho rfl rfl (Nat.le_trans hB hs1))
  have HB2 : Hid (Below B w w2) := (HB1.out.mono hB).trans (only_below ho HX1.out.low.2 (Nat.le_trans hB hs1))
  unfold errA
  obtain ⟨w2a, hw2a⟩ : ∃ w2a, w2.alloc (.cells #[.int .i64 0, .string ⟨#[]⟩, .bool true] 27) = w2a := ⟨_, rfl⟩
  have ha : Below w2.heap.size w2 w2a := by rw [← hw2a]; exact (Below.refl _ _).alloc (Nat.le_refl _) _
  have BE : Blk w2a w2.heap.size 27 [.int .i64 0, .string ⟨#[]⟩, .bool true] := by rw [← hw2a]; exact Blk.new w2 27 _
  obtain ⟨z0, z1, z2, _, _, _⟩ := facts3 BE
  have HXa := Lib.hid (HX2.out.below ha)
  have HA := Lib.hid ha
  obtain ⟨x0, x1, _, _, x4, _, y0, y1, y4⟩ := facts10 HXa.out.blk
  have hgl : gx < w2.heap.size := HX2.out.blk.lt
  have hne : gx ≠ w2.heap.size := by omega
  clear hst hsep ho ha
  go_wp2_with fail
  refine (bare_same 0 _).mono ?_
  rintro e w3 ⟨rfl, hb3⟩
  have ha := HA.out
  have HX3 := Lib.hid ((HXa.out.setAll (.slice none 0 0) [] (World.ownsRow_nil _ _ _ _)).below hb3)
  have hB2 : B ≤ w2.heap.size := Nat.le_trans hB HB2.out.size
  have HB3 : Hid (Below B w w3) := HB2.out.trans (((ha.mono hB2).setCell (p := ⟨gx, 4, none⟩) HX2.out.low.1 _).trans (hb3.mono (by simpa [World.setCell] using Nat.le_trans hB2 ha.size)))
  clear hb3 ha
  go_wp2_with fail
  go_ret
  exact ⟨rfl, ⟨g, gl, v, va', _, vb, vs', bs, d', rd, _, [], HX3.out.at_ rfl, HOK.out, hf, hd, by omega, by show l.epoch + 1 ≤ _; omega⟩, HB3.out⟩
end Go.Proofs.YtljmklohgpaopaaDoor

namespace Go.Proofs.YtljmklohgpaopaaDoor
open Go.RowKit

set_option maxHeartbeats 2000000 in
set_option maxRecDepth 100000 in
theorem step_none (B gx first sectors m : Nat) (kd n : Int) (s t : ByteArray) (w : World) (h : XLog B w gx first sectors m) (hB : B ≤ w.heap.size) (hm : m ≤ 65536) (k1 : kd ≠ 1) (k2 : kd ≠ 2) (k4 : kd ≠ 4) (k5 : kd ≠ 5) (k6 : kd ≠ 6) :
    Calls Tryd.prog 18 #[.pointer (some ⟨gx, 0, none⟩), moveV kd n s t] w (StepPost B gx first sectors m w) := by
  obtain ⟨g, gl, v, va, vall, vb, vs, bs, d, rd, l, ss, hx, hok, hf, hd, hbs, hep⟩ := h
  unfold moveV
  have q1 : (kd == 1) = false := by simpa using k1
  have q2 : (kd == 2) = false := by simpa using k2
  have q4 : (kd == 4) = false := by simpa using k4
  have q5 : (kd == 5) = false := by simpa using k5
  have q6 : (kd == 6) = false := by simpa using k6
  obtain ⟨w1, hw1⟩ : ∃ w1, w.alloc (.cells #[.int .i64 kd, .int .i64 n, .string s, .string t] 57) = w1 := ⟨_, rfl⟩
  have hb1 : Below w.heap.size w w1 := by rw [← hw1]; exact (Below.refl _ _).alloc (Nat.le_refl _) _
  have BM : Blk w1 w.heap.size 57 [.int .i64 kd, .int .i64 n, .string s, .string t] := by rw [← hw1]; exact Blk.new w 57 _
  have cM0 := BM.cell 0
  have cM2 := BM.cell 2
  simp only [List.getElem?_cons_zero, List.getElem?_cons_succ] at cM0 cM2
  have hs1 := hb1.size
  have hrows := LogOk_rows hok
  have hsm := hx.log.cells.small
  have HC := Lib.hid (same_any B w1 gx g gl v va vall vb vs bs d rd l ss (hx.below hb1) (by omega) hok.small (by omega) (Nat.le_trans hB hs1))
  have HB1 := Lib.hid hb1
  have HOK := Lib.hid hok
  clear hx hb1 hok k1 k2 k4 k5 k6
  go_enter Tryd.func18, Tryd.ntmps18
  go_wp2_with fail
  refine HC.out.mono ?_
  rintro e w2 ⟨rfl, vb', bs', hX2, hbl, hb2⟩
  have HX2 := Lib.hid hX2
  have HB2 : Hid (Below B w w2) := (HB1.out.mono hB).trans hb2
  clear hX2 hb2
  go_wp2_with fail
  go_ret
  exact ⟨rfl, ⟨g, gl, v, va, vall, vb', vs, bs', d, rd, l, ss, HX2.out, HOK.out, hf, hd, by omega, by omega⟩, HB2.out⟩
end Go.Proofs.YtljmklohgpaopaaDoor

namespace Go.Proofs.YtljmklohgpaopaaDoor
open Go.RowKit

/-- A row of bytes is written, that is none of these. -/
theorem XCore.onlyG {B gb : Nat} {w w' : World} {gx g gl : Nat} {v va vall vb : Value} {vs bs cs : List Value} {d : Pl.Dk} {rd : Int} {l : Pl.Lg} {ss : List ByteArray} (h : XCore B w gx g gl v va vall vb vs bs d rd l ss) (hg : Blk w gb 5 cs) (ho : Only (· = gb) w w') (h1 : ∀ u ∈ vs, u.ownBlock ≠ some gb) (h2 : ∀ u ∈ bs, u.ownBlock ≠ some gb) : XCore B w' gx g gl v va vall vb vs bs d rd l ss := by
  have hk : Kinds (· = gb) w [5] := fun x hx => by
    rw [hx]
    exact ⟨_, by simp, hg.typ⟩
  refine ⟨ho.blk_ hk h.blk (by decide), ⟨h.log.disk.onlyT ho hk (by decide) (by decide), h.log.cells.only ho hk (by decide), ⟨ho.own_ hk h.log.rows.own (by decide), fun k u x hu hx => ho.own (h.log.rows.each k u x hu hx) (fun q hq e => ?_)⟩⟩, ho.own_ hk h.all (by decide), ⟨ho.own_ hk h.book.own (by decide), fun i u hu => ?_⟩, h.low, h.apart⟩
  · exact h1 u (List.mem_of_getElem? hu) (by rw [hq, e])
  · obtain ⟨c, hc⟩ := h.book.each i u hu
    exact ⟨c, ho.own hc (fun q hq e => h2 u (List.mem_of_getElem? hu) (by rw [hq, e]))⟩
theorem flat_takes : ∀ ss : List ByteArray, (∀ s ∈ ss, 1 ≤ s.size) → (Pl.flat (bl ss)).length ≤ takes ss := by
  intro ss
  induction ss with
  | nil => intro _; exact Nat.zero_le _
  | cons a r ih =>
    intro h
    have h1 : 1 ≤ a.data.toList.length := h a (by simp)
    have h2 := ih (fun s hs => h s (by simp [hs]))
    have h3 := Pl.pieces_length a.data.toList.length a.data.toList (Nat.le_refl _) h1
    have h4 : a.data.toList.length = a.size := rfl
    unfold Pl.chunks at h3
    unfold Pl.flat bl takes at h2 ⊢
    rw [List.map_cons, List.flatMap_cons, List.length_append, h3, h4, List.map_cons, List.sum_cons]
    omega
theorem not_empty (s : ByteArray) (h : 0 < s.size) : s.toList.isEmpty = false := by
  rw [ByteArray.toList_eq]
  have hl : s.data.toList.length = s.size := rfl
  cases he : s.data.toList with
  | nil => rw [he] at hl; simp at hl; omega
  | cons a r => rfl
theorem stays_only {w w' : World} {g : Nat} (h : w.grownBy w' (some g)) : Only (· = g) w w' := ⟨h.os, h.tape, h.output, h.size, fun k hk hn => h.block k hk (fun e => hn (by injection e))⟩


set_option maxHeartbeats 2000000 in
set_option maxRecDepth 100000 in
theorem step_append_size (B gx first sectors m : Nat) (n : Int) (s t : ByteArray) (w : World) (g gl : Nat) (v va vall vb : Value) (vs bs : List Value) (d : Pl.Dk) (rd : Int) (l : Pl.Lg) (ss : List ByteArray) (hx : XAt B w gx g gl v va vall vb vs bs d rd l ss) (hok : Pl.LogOk d l) (hf : l.first = first) (hd : l.data + 2 = sectors) (hbs : bs.length ≤ 5000 * m) (hep : l.epoch ≤ m + 1)
    (hG : GE w) (hGB : 0 < B) (hB : B ≤ w.heap.size) (hm : m ≤ 65536) (hsz : s.size ≤ 140737488351232) (hcase : s.size = 0 ∨ 2000 < s.size) :
    Calls Tryd.prog 18 #[.pointer (some ⟨gx, 0, none⟩), moveV 1 n s t] w (StepPost B gx first sectors m w) := by
  unfold moveV
  obtain ⟨w1, hw1⟩ : ∃ w1, w.alloc (.cells #[.int .i64 1, .int .i64 n, .string s, .string t] 57) = w1 := ⟨_, rfl⟩
  have hb1 : Below w.heap.size w w1 := by rw [← hw1]; exact (Below.refl _ _).alloc (Nat.le_refl _) _
  have BM : Blk w1 w.heap.size 57 [.int .i64 1, .int .i64 n, .string s, .string t] := by rw [← hw1]; exact Blk.new w 57 _
  have cM0 := BM.cell 0
  have cM2 := BM.cell 2
  simp only [List.getElem?_cons_zero, List.getElem?_cons_succ] at cM0 cM2
  have hx1 := hx.core.below hb1
  have hs1 := hb1.size
  obtain ⟨w2, hw2⟩ : ∃ w2, w1.alloc (.cells (lentRow s.data.toList).toArray 5) = w2 := ⟨_, rfl⟩
  have hb2 : Below w1.heap.size w1 w2 := by rw [← hw2]; exact (Below.refl _ _).alloc (Nat.le_refl _) _
  have BG : Blk w2 w1.heap.size 5 (lentRow s.data.toList) := by rw [← hw2]; exact Blk.new w1 5 _
  have hs2 := hb2.size
  obtain ⟨gb, hgb⟩ : ∃ gb, w1.heap.size = gb := ⟨_, rfl⟩
  rw [hgb] at BG
  have hx2 := hx1.below hb2
  have BM2 := BM.below hb2 BM.lt
  have cN2 := BM2.cell 2
  simp only [List.getElem?_cons_zero, List.getElem?_cons_succ] at cN2
  obtain ⟨x0, x1, x2, x3, x4, x5, y0, y1, y4⟩ := facts10 hx2.blk
  have hgf : ¬ lFa gl g v va 0 := fun e => by have := hx2.low.2 _ e; omega
  have hsl : s.data.toList.length = s.size := rfl
  have hby : BytesAt w2 (some ⟨gb, 0, none⟩) s.data.toList := by
    refine .inr ⟨gb, 0, rfl, fun i hi => ?_⟩
    rw [Nat.zero_add, BG.cell, lentRow, bv_append, List.getElem?_append_left (by simpa using hi), getb _ i hi]
  have hnl : ¬ lFa gl g v va gb := lFa_kinds_off hx2.log BG (by decide)
  have hsm := hx2.log.cells.small
  have hrows := LogOk_rows hok
  have hL := Lib.hid (lent_any s w1 (by omega))
  have hP := pAppend_any gl g v va vs d rd l s.data.toList (some ⟨gb, 0, none⟩) (s.size + 2) w2 hx2.log ((hG.below hb1).below hb2) hgf hby (fun q hq => by injection hq with hq; subst hq; exact ⟨BG.lt, hnl⟩) (by rw [hsl]; omega) (by rw [hsl]; omega) hok.room (by omega)
  have hres : l.append d s.data.toList = (l, d, 4) := append_size d (by rw [hsl]; omega)
  rw [hres, hsl] at hP
  have HP := Lib.hid hP
  have HX1 := Lib.hid hx1
  have HX2 := Lib.hid hx2
  have HB1 := Lib.hid hb1
  have HB2 := Lib.hid hb2
  have HBM2 := Lib.hid BM2
  have HBG := Lib.hid BG
  have HOK := Lib.hid hok
  have HSM := Lib.hid hx.same
  have HW2 := Lib.hid hw2
  clear hx hb1 hb2 hx1 hx2 hP hok hG hby hw2 hres BG BM2 BM
  go_enter Tryd.func18, Tryd.ntmps18
  go_wp2_with fail
  refine hL.out.mono ?_
  rintro e w' ⟨rfl, rfl⟩
  rw [HW2.out, hgb]
  go_wp2_with fail
  refine HP.out.mono ?_
  rintro e w3 ⟨rfl, va', vs', hst, hsep, hrs, ho⟩
  have hB2 : B ≤ w2.heap.size := Nat.le_trans hB (Nat.le_trans hs1 hs2)
  have hX3 := HX2.out.put hst hsep ho rfl rfl hB2
  have HBL3 : Hid (Below B w w3) := ((HB1.out.mono hB).trans (HB2.out.mono (Nat.le_trans hB hs1))).trans (only_below ho HX2.out.low.2 hB2)
  have hBG3 := ho.blk_ HX2.out.log.kinds HBG.out (by decide)
  have hBM3 := ho.blk_ HX2.out.log.kinds HBM2.out (by decide)
  have hv1 : ∀ u ∈ vs', u.ownBlock ≠ some gb := fun u hu e => by
    have hl : gb < w2.heap.size := HBG.out.lt
    obtain ⟨j, hj⟩ := List.getElem?_of_mem (hrs u hu gb e hl _ vs HX2.out.log.rows.own)
    have hjl : j < l.all.length := by
      have h1 := (List.getElem?_eq_some_iff.1 hj).1
      have h2 : vs.length = l.all.length := by simpa using HX1.out.log.rows.own.1
      omega
    have := ((HX1.out.log.rows.each j u _ hj (List.getElem?_eq_getElem hjl)).lt gb e).2
    omega
  have hv2 : ∀ u ∈ bs, u.ownBlock ≠ some gb := fun u hu e => by
    have := (HX1.out.book.lt gb (.inr ⟨u, hu, e⟩)).2
    omega
  obtain ⟨w4, hw4⟩ : ∃ w4, w3.alloc (.cells #[.int .i64 4, .string ⟨#[]⟩, .bool true] 27) = w4 := ⟨_, rfl⟩
  have hb4 : Below w3.heap.size w3 w4 := by rw [← hw4]; exact (Below.refl _ _).alloc (Nat.le_refl _) _
  have BE : Blk w4 w3.heap.size 27 [.int .i64 4, .string ⟨#[]⟩, .bool true] := by rw [← hw4]; exact Blk.new w3 27 _
  have hX4 := hX3.below hb4
  have hBG4 := hBG3.below hb4 hBG3.lt
  have hBM4 := hBM3.below hb4 hBM3.lt
  have HX4 := Lib.hid hX4
  have HBG4 := Lib.hid hBG4
  have HBM4 := Lib.hid hBM4
  have HBE4 := Lib.hid BE
  have HV1 := Lib.hid hv1
  have HV2 := Lib.hid hv2
  have HBL4 : Hid (Below B w w4) := HBL3.out.trans (hb4.mono (Nat.le_trans hB HBL3.out.size))
  have cQ2 := hBM4.cell 2
  simp only [List.getElem?_cons_zero, List.getElem?_cons_succ] at cQ2
  have HST4 := Lib.hid (stays_any gb s w4 (by omega) hBG4)
  unfold errA
  clear hst hsep hrs ho hX3 hBG3 hBM3 hv1 hv2 hb4 BE hX4 hBG4 hBM4 cM0 cM2 cN2 x0 x1 x2 x3 x4 x5 y0 y1 y4
  go_wp2_with fail
  refine HST4.out.mono ?_
  rintro e w5 ⟨rfl, hg5, cs5, _, hBG5⟩
  have ho5 := stays_only hg5
  have hk5 : Kinds (· = gb) w4 [5] := fun x hx => by
    rw [hx]
    exact ⟨_, by simp, HBG4.out.typ⟩
  have hX5 := HX4.out.onlyG HBG4.out ho5 HV1.out HV2.out
  have HX5 := Lib.hid hX5
  have hBM5 := ho5.blk_ hk5 HBM4.out (by decide)
  have hBE5 := ho5.blk_ hk5 HBE4.out (by decide)
  have c52 := hBM5.cell 2
  simp only [List.getElem?_cons_zero, List.getElem?_cons_succ] at c52
  obtain ⟨e50, e51, e52, _, _, _⟩ := facts3 hBE5
  obtain ⟨x0, x1, x2, x3, x4, x5, y0, y1, y4⟩ := facts10 hX5.blk
  have hgB : B ≤ gb := by omega
  have HBL5 : Hid (Below B w w5) := HBL4.out.trans (only_below ho5 (fun k hk => by rw [hk]; exact hgB) (Nat.le_trans hB HBL4.out.size))
  have HBM5 := Lib.hid hBM5
  have HBE5 := Lib.hid hBE5
  clear hg5 ho5 hk5 hX5 hBM5 hBE5 hBG5 cQ2
  rcases Nat.eq_zero_or_pos s.size with h0 | h0
  · have q : s.toList.isEmpty = true := by rw [ByteArray.toList_eq]; exact List.isEmpty_iff.2 (List.eq_nil_of_length_eq_zero h0)
    go_wp2_with fail
    refine (bare_same 4 _).mono ?_
    rintro e w6 ⟨rfl, hb6⟩
    have HX6 := Lib.hid (HX5.out.below hb6)
    have HBL6 : Hid (Below B w w6) := HBL5.out.trans (hb6.mono (Nat.le_trans hB HBL5.out.size))
    clear hb6
    go_wp2_with fail
    go_ret
    exact ⟨rfl, ⟨g, gl, v, va', vall, vb, vs', bs, d, rd, l, ss, HX6.out.at_ HSM.out, HOK.out, hf, hd, by omega, by omega⟩, HBL6.out⟩
  · have q := not_empty s h0
    have q2 : (2000 : Int) < (s.size : Int) := by omega
    go_wp2_with fail
    refine (bare_same 4 _).mono ?_
    rintro e w6 ⟨rfl, hb6⟩
    have HX6 := Lib.hid (HX5.out.below hb6)
    have HBL6 : Hid (Below B w w6) := HBL5.out.trans (hb6.mono (Nat.le_trans hB HBL5.out.size))
    clear hb6
    go_wp2_with fail
    go_ret
    exact ⟨rfl, ⟨g, gl, v, va', vall, vb, vs', bs, d, rd, l, ss, HX6.out.at_ HSM.out, HOK.out, hf, hd, by omega, by omega⟩, HBL6.out⟩

set_option maxHeartbeats 2000000 in
set_option maxRecDepth 100000 in
theorem step_append_full (B gx first sectors m : Nat) (n : Int) (s t : ByteArray) (w : World) (g gl : Nat) (v va vall vb : Value) (vs bs : List Value) (d : Pl.Dk) (rd : Int) (l : Pl.Lg) (ss : List ByteArray) (hx : XAt B w gx g gl v va vall vb vs bs d rd l ss) (hok : Pl.LogOk d l) (hf : l.first = first) (hd : l.data + 2 = sectors) (hbs : bs.length ≤ 5000 * m) (hep : l.epoch ≤ m + 1)
    (hG : GE w) (hGB : 0 < B) (hB : B ≤ w.heap.size) (hm : m ≤ 65536) (hsz : s.size ≤ 140737488351232) (h1 : 1 ≤ s.size) (h2 : s.size ≤ 2000) (hcase : l.data < l.next + Pl.chunks s.size) :
    Calls Tryd.prog 18 #[.pointer (some ⟨gx, 0, none⟩), moveV 1 n s t] w (StepPost B gx first sectors m w) := by
  unfold moveV
  obtain ⟨w1, hw1⟩ : ∃ w1, w.alloc (.cells #[.int .i64 1, .int .i64 n, .string s, .string t] 57) = w1 := ⟨_, rfl⟩
  have hb1 : Below w.heap.size w w1 := by rw [← hw1]; exact (Below.refl _ _).alloc (Nat.le_refl _) _
  have BM : Blk w1 w.heap.size 57 [.int .i64 1, .int .i64 n, .string s, .string t] := by rw [← hw1]; exact Blk.new w 57 _
  have cM0 := BM.cell 0
  have cM2 := BM.cell 2
  simp only [List.getElem?_cons_zero, List.getElem?_cons_succ] at cM0 cM2
  have hx1 := hx.core.below hb1
  have hs1 := hb1.size
  obtain ⟨w2, hw2⟩ : ∃ w2, w1.alloc (.cells (lentRow s.data.toList).toArray 5) = w2 := ⟨_, rfl⟩
  have hb2 : Below w1.heap.size w1 w2 := by rw [← hw2]; exact (Below.refl _ _).alloc (Nat.le_refl _) _
  have BG : Blk w2 w1.heap.size 5 (lentRow s.data.toList) := by rw [← hw2]; exact Blk.new w1 5 _
  have hs2 := hb2.size
  obtain ⟨gb, hgb⟩ : ∃ gb, w1.heap.size = gb := ⟨_, rfl⟩
  rw [hgb] at BG
  have hx2 := hx1.below hb2
  have BM2 := BM.below hb2 BM.lt
  have cN2 := BM2.cell 2
  simp only [List.getElem?_cons_zero, List.getElem?_cons_succ] at cN2
  obtain ⟨x0, x1, x2, x3, x4, x5, y0, y1, y4⟩ := facts10 hx2.blk
  have hgf : ¬ lFa gl g v va 0 := fun e => by have := hx2.low.2 _ e; omega
  have hsl : s.data.toList.length = s.size := rfl
  have hby : BytesAt w2 (some ⟨gb, 0, none⟩) s.data.toList := by
    refine .inr ⟨gb, 0, rfl, fun i hi => ?_⟩
    rw [Nat.zero_add, BG.cell, lentRow, bv_append, List.getElem?_append_left (by simpa using hi), getb _ i hi]
  have hnl : ¬ lFa gl g v va gb := lFa_kinds_off hx2.log BG (by decide)
  have hsm := hx2.log.cells.small
  have hrows := LogOk_rows hok
  have hL := Lib.hid (lent_any s w1 (by omega))
  have hP := pAppend_any gl g v va vs d rd l s.data.toList (some ⟨gb, 0, none⟩) (s.size + 2) w2 hx2.log ((hG.below hb1).below hb2) hgf hby (fun q hq => by injection hq with hq; subst hq; exact ⟨BG.lt, hnl⟩) (by rw [hsl]; omega) (by rw [hsl]; omega) hok.room (by omega)
  have hres : l.append d s.data.toList = (l, d, 5) := Pl.LogOk.fulls (d := d) (l := l) s.data.toList (by rw [hsl]; exact h1) (by rw [hsl]; exact h2) (by rw [hsl]; exact hcase)
  rw [hres, hsl] at hP
  have HP := Lib.hid hP
  have HX1 := Lib.hid hx1
  have HX2 := Lib.hid hx2
  have HB1 := Lib.hid hb1
  have HB2 := Lib.hid hb2
  have HBM2 := Lib.hid BM2
  have HBG := Lib.hid BG
  have HOK := Lib.hid hok
  have HSM := Lib.hid hx.same
  have HW2 := Lib.hid hw2
  clear hx hb1 hb2 hx1 hx2 hP hok hG hby hw2 hres BG BM2 BM
  go_enter Tryd.func18, Tryd.ntmps18
  go_wp2_with fail
  refine hL.out.mono ?_
  rintro e w' ⟨rfl, rfl⟩
  rw [HW2.out, hgb]
  go_wp2_with fail
  refine HP.out.mono ?_
  rintro e w3 ⟨rfl, va', vs', hst, hsep, hrs, ho⟩
  have hB2 : B ≤ w2.heap.size := Nat.le_trans hB (Nat.le_trans hs1 hs2)
  have hX3 := HX2.out.put hst hsep ho rfl rfl hB2
  have HBL3 : Hid (Below B w w3) := ((HB1.out.mono hB).trans (HB2.out.mono (Nat.le_trans hB hs1))).trans (only_below ho HX2.out.low.2 hB2)
  have hBG3 := ho.blk_ HX2.out.log.kinds HBG.out (by decide)
  have hBM3 := ho.blk_ HX2.out.log.kinds HBM2.out (by decide)
  have hv1 : ∀ u ∈ vs', u.ownBlock ≠ some gb := fun u hu e => by
    have hl : gb < w2.heap.size := HBG.out.lt
    obtain ⟨j, hj⟩ := List.getElem?_of_mem (hrs u hu gb e hl _ vs HX2.out.log.rows.own)
    have hjl : j < l.all.length := by
      have h1 := (List.getElem?_eq_some_iff.1 hj).1
      have h2 : vs.length = l.all.length := by simpa using HX1.out.log.rows.own.1
      omega
    have := ((HX1.out.log.rows.each j u _ hj (List.getElem?_eq_getElem hjl)).lt gb e).2
    omega
  have hv2 : ∀ u ∈ bs, u.ownBlock ≠ some gb := fun u hu e => by
    have := (HX1.out.book.lt gb (.inr ⟨u, hu, e⟩)).2
    omega
  obtain ⟨w4, hw4⟩ : ∃ w4, w3.alloc (.cells #[.int .i64 5, .string ⟨#[]⟩, .bool true] 27) = w4 := ⟨_, rfl⟩
  have hb4 : Below w3.heap.size w3 w4 := by rw [← hw4]; exact (Below.refl _ _).alloc (Nat.le_refl _) _
  have BE : Blk w4 w3.heap.size 27 [.int .i64 5, .string ⟨#[]⟩, .bool true] := by rw [← hw4]; exact Blk.new w3 27 _
  have hX4 := hX3.below hb4
  have hBG4 := hBG3.below hb4 hBG3.lt
  have hBM4 := hBM3.below hb4 hBM3.lt
  have HX4 := Lib.hid hX4
  have HBG4 := Lib.hid hBG4
  have HBM4 := Lib.hid hBM4
  have HBE4 := Lib.hid BE
  have HV1 := Lib.hid hv1
  have HV2 := Lib.hid hv2
  have HBL4 : Hid (Below B w w4) := HBL3.out.trans (hb4.mono (Nat.le_trans hB HBL3.out.size))
  have cQ2 := hBM4.cell 2
  simp only [List.getElem?_cons_zero, List.getElem?_cons_succ] at cQ2
  have HST4 := Lib.hid (stays_any gb s w4 (by omega) hBG4)
  unfold errA
  clear hst hsep hrs ho hX3 hBG3 hBM3 hv1 hv2 hb4 BE hX4 hBG4 hBM4 cM0 cM2 cN2 x0 x1 x2 x3 x4 x5 y0 y1 y4
  go_wp2_with fail
  refine HST4.out.mono ?_
  rintro e w5 ⟨rfl, hg5, cs5, _, hBG5⟩
  have ho5 := stays_only hg5
  have hk5 : Kinds (· = gb) w4 [5] := fun x hx => by
    rw [hx]
    exact ⟨_, by simp, HBG4.out.typ⟩
  have hX5 := HX4.out.onlyG HBG4.out ho5 HV1.out HV2.out
  have HX5 := Lib.hid hX5
  have hBM5 := ho5.blk_ hk5 HBM4.out (by decide)
  have hBE5 := ho5.blk_ hk5 HBE4.out (by decide)
  have c52 := hBM5.cell 2
  simp only [List.getElem?_cons_zero, List.getElem?_cons_succ] at c52
  obtain ⟨e50, e51, e52, _, _, _⟩ := facts3 hBE5
  obtain ⟨x0, x1, x2, x3, x4, x5, y0, y1, y4⟩ := facts10 hX5.blk
  have hgB : B ≤ gb := by omega
  have HBL5 : Hid (Below B w w5) := HBL4.out.trans (only_below ho5 (fun k hk => by rw [hk]; exact hgB) (Nat.le_trans hB HBL4.out.size))
  have HBM5 := Lib.hid hBM5
  have HBE5 := Lib.hid hBE5
  clear hg5 ho5 hk5 hX5 hBM5 hBE5 hBG5 cQ2
  have q := not_empty s h1
  have q2 : ¬ (2000 : Int) < (s.size : Int) := by omega
  have q2d : decide ((2000 : Int) < (s.size : Int)) = false := decide_eq_false q2
  have hnt := flat_takes ss (fun s' hs' => by
    have := (HOK.out.small s'.data.toList (by rw [← HSM.out]; exact List.mem_map_of_mem hs'))
    exact this.1)
  rw [HSM.out, ← HOK.out.next] at hnt
  have hss : ∀ s' ∈ ss, s'.size ≤ 2000 := fun s' hs' => (HOK.out.small s'.data.toList (by rw [← HSM.out]; exact List.mem_map_of_mem hs')).2
  have hsn : ss.length = l.all.length := by rw [← HSM.out]; simp [bl]
  have htb := takes_le ss hss ss.length
  rw [List.take_length] at htb
  obtain ⟨T, hT⟩ : ∃ T, takes ss = T := ⟨_, rfl⟩
  have HSS := Lib.hid hss
  have HT := Lib.hid hT
  rw [hT] at hnt htb
  clear hss hT
  obtain ⟨z, hz⟩ : ∃ z, s.size = z := ⟨_, rfl⟩
  obtain ⟨Q, hQ⟩ : ∃ Q, (z + 199) / 200 = Q := ⟨_, rfl⟩
  have hcQ : Pl.chunks s.size ≤ Q := by unfold Pl.chunks; omega
  have hQ20 : Q ≤ 20 := by omega
  have q3 : ((l.data + 2 : Nat) : Int) - 3 < (T : Int) + (Q : Int) := by omega
  have hLC := Lib.hid (fun W => (lchunks_any z W (by omega)).mono (fun e w' ⟨h1, h2⟩ => (⟨h1, h2.symm⟩ : _ ∧ _)))
  rw [hQ] at hLC
  go_wp2_with fail
  refine (bare_same 5 _).mono ?_
  rintro e w6 ⟨rfl, hb6⟩
  have hX6 := HX5.out.below hb6
  have HX6 := Lib.hid hX6
  have HBL6 : Hid (Below B w w6) := HBL5.out.trans (hb6.mono (Nat.le_trans hB HBL5.out.size))
  have c62 := (HBM5.out.below hb6 HBM5.out.lt).cell 2
  simp only [List.getElem?_cons_zero, List.getElem?_cons_succ] at c62
  obtain ⟨z0, z1, z2, z3, z4, z5, _, _, _⟩ := facts10 hX6.blk
  have HTK := Lib.hid (fun k => (taken_any gx B vall ss (w6.drewN k) (own_below hX6.all (below_drewN (Below.refl _ _) k)) z4 HSS.out (by omega)).mono (fun e w' ⟨h1, h2⟩ => (⟨h1, h2.symm⟩ : _ ∧ _)))
  rw [HT.out] at HTK
  clear hb6 hX6
  go_wp2_with fail
  go_quiet (first
    | (go_at_call 39; exact Calls.quiet_of_same (HTK.out _))
    | (go_at_call 40; exact Calls.quiet_of_same (hLC.out _))
    | fail)
  go_wp2_with fail
  have q4 : decide ((sectors : Int) - 3 < (T : Int) + (Q : Int)) = true := decide_eq_true (by omega)
  rw [q4]
  have hbq : Below w6.heap.size w6 (w6.drewN nq) := below_drewN (Below.refl _ _) nq
  have HX7 := Lib.hid (HX6.out.below hbq)
  have HBL7 : Hid (Below B w (w6.drewN nq)) := HBL6.out.trans (hbq.mono (Nat.le_trans hB HBL6.out.size))
  clear hbq
  go_ret
  exact ⟨rfl, ⟨g, gl, v, va', vall, vb, vs', bs, d, rd, l, ss, HX7.out.at_ HSM.out, HOK.out, hf, hd, by omega, by omega⟩, HBL7.out⟩
end Go.Proofs.YtljmklohgpaopaaDoor
