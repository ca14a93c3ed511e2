/- Package plain's CreateLog and OpenLog, of a place that may be taken. The harness's log, of which the disk alone is looked at; another log is opened on it. -/
import Derived.Test.YtljmklohgpaopaaDoorMgLogged11
set_option linter.unusedVariables false
set_option linter.unusedSimpArgs false

namespace Go.Proofs.YtljmklohgpaopaaDoor
open Go.RowKit

theorem set3_only {w w3 : World} {F : Nat → Prop} (k : Nat) (h : Only F w w3) : Only F w (set3 w3 w.heap.size k) := only_set3 h _ _ _
theorem DiskAt.set3 {w : World} {b g : Nat} {v a0 a1 a2 : Value} {d : Pl.Dk} {rd : Int} (h : DiskAt w g v d rd) (hb : Blk w b 27 [a0, a1, a2]) (k : Nat) : DiskAt (set3 w b k) g v d rd := by
  have ho : Only (· = b) w (Go.Proofs.YtljmklohgpaopaaDoor.set3 w b k) :=
    (((Only.refl (· = b) w).setCell (p := ⟨b, 0, none⟩) (.inl rfl) _).setCell (p := ⟨b, 1, none⟩) (.inl rfl) _).setCell (p := ⟨b, 2, none⟩) (.inl rfl) _
  have hk : Kinds (· = b) w [27] := fun x hx => by
    rw [hx]
    exact ⟨_, by simp, hb.typ⟩
  exact h.onlyT ho hk (by decide) (by decide)

theorem pCreate_yes (g : Nat) (v : Value) (d d' : Pl.Dk) (rd : Int) (first n k : Nat) (w : World) (h : DiskAt w g v d rd) (hG : GE w) (hGF : ¬ dF g v 0) (hp : placedB d.secs.length first n 4 = true) (hc : Pl.createLog d first n = (d', k)) :
    Calls Tryd.prog 16 #[.pointer (some ⟨g, 0, none⟩), .int .i64 (first : Nat), .int .i64 (n : Nat)] w fun e w' => e = .returned (errA (k : Nat) ⟨#[]⟩) ∧ DiskAt w' g v d' rd ∧ Only (dF g v) w w' := by
  have hb0 : Below w.heap.size w (w.alloc err0) := (Below.refl _ _).alloc (Nat.le_refl _) _
  have B0 : Blk (w.alloc err0) w.heap.size 27 [.int .i64 0, .string ⟨#[]⟩, .bool false] := Blk.new w 27 _
  have h0 := h.below hb0
  have hk := create_kind d first n
  rw [hc] at hk
  refine (pCreate_gen _ _ _ w k hk (fun w2 => DiskAt w2 g v d' rd ∧ Only (dF g v) w w2) ?_).mono ?_
  · refine (wcreate_yes g v d rd first n _ h0 hp).mono ?_
    rintro e w2 ⟨he, hd, ho⟩
    rw [hc] at he hd
    exact ⟨he, ⟨hd, (Only.of_below hb0 (dF g v)).trans' ho⟩, (hG.below hb0).only ho hGF, ho.blk B0 (h0.off B0 (by decide) (by decide))⟩
  · rintro e w' ⟨rfl, w2, w3, ⟨hd, ho⟩, hb, hB, rfl⟩
    exact ⟨rfl, (hd.below hb).set3 hB k, set3_only k (ho.below hb)⟩

/-- The log that is opened. -/
def OpenedAt (g : Nat) (v : Value) (d' : Pl.Dk) (l' : Pl.Lg) (w : World) (o : Option Addr) (w' : World) : Prop :=
  ∃ gl va' vs' rd', o = some ⟨gl, 0, none⟩ ∧ LogSt w' gl g v va' vs' d' rd' l' ∧ w.heap.size ≤ gl ∧ (∀ x, va'.ownBlock = some x → w.heap.size ≤ x) ∧ Only (dF g v) w w'
theorem pOpen_yes (g : Nat) (v : Value) (d d' : Pl.Dk) (rd : Int) (first n : Nat) (l' : Pl.Lg) (w : World) (h : DiskAt w g v d rd) (hG : GE w) (hGF : ¬ dF g v 0) (hp : placedB d.secs.length first n 4 = true) (hc : Pl.openLog d first n = (d', .inr l')) :
    Calls Tryd.prog 15 #[.pointer (some ⟨g, 0, none⟩), .int .i64 (first : Nat), .int .i64 (n : Nat)] w fun e w' => ∃ o, e = .returned (.tuple #[.pointer o, errA 0 ⟨#[]⟩]) ∧ OpenedAt g v d' l' w o w' := by
  have hb0 : Below w.heap.size w (w.alloc err0) := (Below.refl _ _).alloc (Nat.le_refl _) _
  have B0 : Blk (w.alloc err0) w.heap.size 27 [.int .i64 0, .string ⟨#[]⟩, .bool false] := Blk.new w 27 _
  have h0 := h.below hb0
  have hs0 := hb0.size
  refine (pOpen_gen _ _ _ w 0 (by omega) (fun o w2 => ∃ o', o = .pointer o' ∧ OpenedAt g v d' l' w o' w2) ?_).mono ?_
  · refine (wopen_yes g v d rd first n _ h0 hp).mono ?_
    rintro e w2 ⟨⟨_, hd⟩, ho, hor⟩
    rw [hc] at hd hor
    rcases hor with ⟨k, hk, _⟩ | ⟨gl, va', vs', rd', l2, hl, he, hst, hgl, hva⟩
    · cases hk
    · injection hl with hl
      subst hl
      exact ⟨_, he, ⟨_, rfl, gl, va', vs', rd', rfl, hst, Nat.le_trans hs0 hgl, fun x hx => Nat.le_trans hs0 (hva x hx), (Only.of_below hb0 (dF g v)).trans' ho⟩, (hG.below hb0).only ho hGF, ho.blk B0 (h0.off B0 (by decide) (by decide))⟩
  · rintro e w' ⟨o, he, w2, w3, ⟨o', ho', gl, va', vs', rd', hgl', hst, hgl, hva, hon⟩, hb, hB, rfl⟩
    injection ho' with ho'
    subst ho'
    exact ⟨o, he, gl, va', vs', rd', hgl', (hst.below hb).set3 hB _ _ _, hgl, hva, set3_only 0 (hon.below hb)⟩
/-- A place that no log holds: told so. -/
theorem pOpen_none (g : Nat) (v : Value) (d d' : Pl.Dk) (rd : Int) (first n k : Nat) (w : World) (h : DiskAt w g v d rd) (hG : GE w) (hGF : ¬ dF g v 0) (hp : placedB d.secs.length first n 4 = true) (hc : Pl.openLog d first n = (d', .inl k)) (hk : k = 2 ∨ k = 3) :
    Calls Tryd.prog 15 #[.pointer (some ⟨g, 0, none⟩), .int .i64 (first : Nat), .int .i64 (n : Nat)] w fun e w' => e = .returned (.tuple #[.pointer none, errA (k : Nat) ⟨#[]⟩]) ∧ (∃ rd', DiskAt w' g v d' rd') ∧ Only (dF g v) w w' := by
  have hb0 : Below w.heap.size w (w.alloc err0) := (Below.refl _ _).alloc (Nat.le_refl _) _
  have B0 : Blk (w.alloc err0) w.heap.size 27 [.int .i64 0, .string ⟨#[]⟩, .bool false] := Blk.new w 27 _
  have h0 := h.below hb0
  refine (pOpen_gen _ _ _ w k (by omega) (fun o w2 => o = .pointer none ∧ (∃ rd', DiskAt w2 g v d' rd') ∧ Only (dF g v) w w2) ?_).mono ?_
  · refine (wopen_yes g v d rd first n _ h0 hp).mono ?_
    rintro e w2 ⟨hd, ho, hor⟩
    rw [hc] at hd hor
    rcases hor with ⟨k', hk', _, he⟩ | ⟨gl, va', vs', rd', l2, hl, _⟩
    · injection hk' with hk'
      subst hk'
      refine ⟨none, ?_, ⟨rfl, hd, (Only.of_below hb0 (dF g v)).trans' ho⟩, (hG.below hb0).only ho hGF, ho.blk B0 (h0.off B0 (by decide) (by decide))⟩
      rw [he]
      rcases hk with rfl | rfl <;> rfl
    · cases hl
  · rintro e w' ⟨o, he, w2, w3, ⟨ho', ⟨rd', hd⟩, hon⟩, hb, hB, rfl⟩
    injection ho' with ho'
    subst ho'
    exact ⟨he, ⟨rd', (hd.below hb).set3 hB k⟩, set3_only k (hon.below hb)⟩
/-- The harness's log, while another lies opened beside it. -/
structure XPre (B : Nat) (w : World) (gx g gl gl2 : Nat) (v va2 vall vb : Value) (vs2 bs : List Value) (d2 : Pl.Dk) (rd2 : Int) (l l2 : Pl.Lg) (ss : List ByteArray) : Prop where
  blk : Blk w gx 54 (xCells g gl l vall vb)
  log : LogSt w gl2 g v va2 vs2 d2 rd2 l2
  all : w.ownsRow B 9 1 vall ss.length (sv ss)
  book : BookRows w B vb bs
  low : B ≤ gx ∧ ∀ k, lFa gl2 g v va2 k → B ≤ k
  apart : ∀ k, va2.ownBlock = some k → vb.ownBlock ≠ some k
theorem XPre.below {B : Nat} {w w' : World} {gx g gl gl2 : Nat} {v va2 vall vb : Value} {vs2 bs : List Value} {d2 : Pl.Dk} {rd2 : Int} {l l2 : Pl.Lg} {ss : List ByteArray} (h : XPre B w gx g gl gl2 v va2 vall vb vs2 bs d2 rd2 l l2 ss) (hb : Below w.heap.size w w') : XPre B w' gx g gl gl2 v va2 vall vb vs2 bs d2 rd2 l l2 ss :=
  ⟨h.blk.below hb h.blk.lt, h.log.below hb, own_below h.all hb, h.book.below hb, h.low, h.apart⟩
theorem XPre.setErr {B b : Nat} {w : World} {gx g gl gl2 : Nat} {v va2 vall vb a0 a1 a2 : Value} {vs2 bs : List Value} {d2 : Pl.Dk} {rd2 : Int} {l l2 : Pl.Lg} {ss : List ByteArray} (h : XPre B w gx g gl gl2 v va2 vall vb vs2 bs d2 rd2 l l2 ss) (hb : Blk w b 27 [a0, a1, a2]) (k : Nat) : XPre B (set3 w b k) gx g gl gl2 v va2 vall vb vs2 bs d2 rd2 l l2 ss := by
  have ho : Only (· = b) w (set3 w b k) :=
    (((Only.refl (· = b) w).setCell (p := ⟨b, 0, none⟩) (.inl rfl) _).setCell (p := ⟨b, 1, none⟩) (.inl rfl) _).setCell (p := ⟨b, 2, none⟩) (.inl rfl) _
  have hk : Kinds (· = b) w [27] := fun x hx => by
    rw [hx]
    exact ⟨_, by simp, hb.typ⟩
  exact ⟨ho.blk_ hk h.blk (by decide), h.log.onlyT ho hk (by decide) (by decide) (by decide) (by decide) (by decide), ho.own_ hk h.all (by decide), ⟨ho.own_ hk h.book.own (by decide), fun i u hu => by
    obtain ⟨c, hc⟩ := h.book.each i u hu
    exact ⟨c, ho.own_ hk hc (by decide)⟩⟩, h.low, h.apart⟩
/-- Another log is opened. -/
theorem XCore.opened {B : Nat} {w w' : World} {gx g gl : Nat} {v va vall vb : Value} {vs bs : List Value} {d d2 : Pl.Dk} {rd : Int} {l l2 : Pl.Lg} {ss : List ByteArray} {o : Option Addr} (h : XCore B w gx g gl v va vall vb vs bs d rd l ss) (hop : OpenedAt g v d2 l2 w o w') (hB : B ≤ w.heap.size) :
    ∃ gl2 va2 vs2 rd2, o = some ⟨gl2, 0, none⟩ ∧ XPre B w' gx g gl gl2 v va2 vall vb vs2 bs d2 rd2 l l2 ss ∧ Below B w w' := by
  obtain ⟨gl2, va2, vs2, rd2, ho, hst, hgl, hva, hon⟩ := hop
  have hk := h.log.disk.kinds
  refine ⟨gl2, va2, vs2, rd2, ho, ⟨hon.blk_ hk h.blk (by decide), hst, hon.own_ hk h.all (by decide), ⟨hon.own_ hk h.book.own (by decide), fun i u hu => ?_⟩, ⟨h.low.1, fun k hk' => ?_⟩, fun k hk' e => ?_⟩, only_below hon (fun k hk' => h.low.2 k (.inl (.inl hk'))) hB⟩
  · obtain ⟨c, hc⟩ := h.book.each i u hu
    exact ⟨c, hon.own_ hk hc (by decide)⟩
  · rcases hk' with (hk' | hk') | hk'
    · exact h.low.2 k (.inl (.inl hk'))
    · omega
    · exact Nat.le_trans hB (hva k hk')
  · have h1 := hva k hk'
    have h2 := (h.book.lt k (.inl e)).2
    omega
/-- The harness takes it. -/
theorem XPre.taken {B : Nat} {w : World} {gx g gl gl2 : Nat} {v va2 vall vb : Value} {vs2 bs : List Value} {d2 : Pl.Dk} {rd2 : Int} {l l2 : Pl.Lg} {ss : List ByteArray} (h : XPre B w gx g gl gl2 v va2 vall vb vs2 bs d2 rd2 l l2 ss) (hf : l2.first = l.first) (hd : l2.data = l.data) :
    XCore B (w.setCell ⟨gx, 1, none⟩ (.pointer (some ⟨gl2, 0, none⟩))) gx g gl2 v va2 vall vb vs2 bs d2 rd2 l2 ss := by
  have ho : Only (· = gx) w (w.setCell ⟨gx, 1, none⟩ (.pointer (some ⟨gl2, 0, none⟩))) := (Only.refl (· = gx) w).setCell (p := ⟨gx, 1, none⟩) (.inl rfl) _
  have hk : Kinds (· = gx) w [54] := fun x hx => by
    rw [hx]
    exact ⟨_, by simp, h.blk.typ⟩
  have hb := h.blk.set_ 1 (.pointer (some ⟨gl2, 0, none⟩))
  refine ⟨?_, h.log.onlyT ho hk (by decide) (by decide) (by decide) (by decide) (by decide), ho.own_ hk h.all (by decide), ⟨ho.own_ hk h.book.own (by decide), fun i u hu => ?_⟩, h.low, h.apart⟩
  · unfold xCells at hb ⊢
    rw [hf, hd]
    exact hb
  · obtain ⟨c, hc⟩ := h.book.each i u hu
    exact ⟨c, ho.own_ hk hc (by decide)⟩
end Go.Proofs.YtljmklohgpaopaaDoor

namespace Go.Proofs.YtljmklohgpaopaaDoor
open Go.RowKit

/-- The harness's log, whatever lies at its log's place. -/
structure XDisk (B : Nat) (w : World) (gx g gl : Nat) (v vall vb : Value) (bs : List Value) (d : Pl.Dk) (rd : Int) (l : Pl.Lg) (ss : List ByteArray) : Prop where
  blk : Blk w gx 54 (xCells g gl l vall vb)
  disk : DiskAt w g v d rd
  all : w.ownsRow B 9 1 vall ss.length (sv ss)
  book : BookRows w B vb bs
  low : B ≤ gx ∧ ∀ k, dF g v k → B ≤ k
theorem XCore.disk_ {B : Nat} {w : World} {gx g gl : Nat} {v va vall vb : Value} {vs bs : List Value} {d : Pl.Dk} {rd : Int} {l : Pl.Lg} {ss : List ByteArray} (h : XCore B w gx g gl v va vall vb vs bs d rd l ss) : XDisk B w gx g gl v vall vb bs d rd l ss :=
  ⟨h.blk, h.log.disk, h.all, h.book, h.low.1, fun k hk => h.low.2 k (.inl (.inl hk))⟩
theorem XDisk.below {B : Nat} {w w' : World} {gx g gl : Nat} {v vall vb : Value} {bs : List Value} {d : Pl.Dk} {rd : Int} {l : Pl.Lg} {ss : List ByteArray} (h : XDisk B w gx g gl v vall vb bs d rd l ss) (hb : Below w.heap.size w w') : XDisk B w' gx g gl v vall vb bs d rd l ss :=
  ⟨h.blk.below hb h.blk.lt, h.disk.below hb, own_below h.all hb, h.book.below hb, h.low⟩
/-- Another log is opened. -/
theorem XDisk.opened {B : Nat} {w w' : World} {gx g gl : Nat} {v vall vb : Value} {bs : List Value} {d d2 : Pl.Dk} {rd : Int} {l l2 : Pl.Lg} {ss : List ByteArray} {o : Option Addr} (h : XDisk B w gx g gl v vall vb bs d rd l ss) (hop : OpenedAt g v d2 l2 w o w') (hB : B ≤ w.heap.size) :
    ∃ gl2 va2 vs2 rd2, o = some ⟨gl2, 0, none⟩ ∧ XPre B w' gx g gl gl2 v va2 vall vb vs2 bs d2 rd2 l l2 ss ∧ Below B w w' := by
  obtain ⟨gl2, va2, vs2, rd2, ho, hst, hgl, hva, hon⟩ := hop
  have hk := h.disk.kinds
  refine ⟨gl2, va2, vs2, rd2, ho, ⟨hon.blk_ hk h.blk (by decide), hst, hon.own_ hk h.all (by decide), ⟨hon.own_ hk h.book.own (by decide), fun i u hu => ?_⟩, ⟨h.low.1, fun k hk' => ?_⟩, fun k hk' e => ?_⟩, only_below hon (fun k hk' => h.low.2 k hk') hB⟩
  · obtain ⟨c, hc⟩ := h.book.each i u hu
    exact ⟨c, hon.own_ hk hc (by decide)⟩
  · rcases hk' with (hk' | hk') | hk'
    · exact h.low.2 k hk'
    · omega
    · exact Nat.le_trans hB (hva k hk')
  · have h1 := hva k hk'
    have h2 := (h.book.lt k (.inl e)).2
    omega
/-- Another disk is laid into the harness's log. -/
theorem XCore.moved {B : Nat} {w w' : World} {gx g gl g2 : Nat} {v va vall vb v2 : Value} {vs bs : List Value} {d d2 : Pl.Dk} {rd rd2 : Int} {l : Pl.Lg} {ss : List ByteArray} (h : XCore B w gx g gl v va vall vb vs bs d rd l ss) (hb : Below w.heap.size w w') (hd : DiskAt w' g2 v2 d2 rd2) (hn : ∀ k, dF g2 v2 k → w.heap.size ≤ k) (hB : B ≤ w.heap.size) :
    XDisk B (w'.setCell ⟨gx, 0, none⟩ (.pointer (some ⟨g2, 0, none⟩))) gx g2 gl v2 vall vb bs d2 rd2 l ss := by
  have h1 := h.below hb
  have ho : Only (· = gx) w' (w'.setCell ⟨gx, 0, none⟩ (.pointer (some ⟨g2, 0, none⟩))) := (Only.refl (· = gx) w').setCell (p := ⟨gx, 0, none⟩) (.inl rfl) _
  have hk : Kinds (· = gx) w' [54] := fun x hx => by
    rw [hx]
    exact ⟨_, by simp, h1.blk.typ⟩
  exact ⟨h1.blk.set_ 0 _, hd.onlyT ho hk (by decide) (by decide), ho.own_ hk h1.all (by decide), ⟨ho.own_ hk h1.book.own (by decide), fun i u hu => by
    obtain ⟨c, hc⟩ := h1.book.each i u hu
    exact ⟨c, ho.own_ hk hc (by decide)⟩⟩, h1.low.1, fun k hk' => Nat.le_trans hB (hn k hk')⟩
end Go.Proofs.YtljmklohgpaopaaDoor
