/- The harness's opens: what it keeps; the raw numbers in memory. -/
import Derived.Test.YtljmklohgpaopaaDoorMgLogged16
set_option linter.unusedVariables false
set_option linter.unusedSimpArgs false

namespace Go.Proofs.YtljmklohgpaopaaDoor
open Go.RowKit

/-- Raw numbers, in memory. -/
structure RawAt (w : World) (A : Option Addr) (cap : Nat) (R : List Int) : Prop where
  own : w.ownsRow 0 3 1 (.slice A R.length cap) R.length (iv R)
  raw : Raw R
  len : R.length ≤ 40
theorem RawAt.src {w : World} {A : Option Addr} {cap : Nat} {R : List Int} (h : RawAt w A cap R) : Src w A (iv R) := by
  obtain ⟨A', cap', e, _, hs, _⟩ := own_src h.own
  injection e with e1 e2 e3
  rw [e1]
  exact hs
theorem RawAt.only {F : Nat → Prop} {ts : List TypeId} {w w' : World} {A : Option Addr} {cap : Nat} {R : List Int} (h : RawAt w A cap R) (ho : Only F w w') (hk : Kinds F w ts) (hn : 3 ∉ ts) : RawAt w' A cap R :=
  ⟨ho.own_ hk h.own hn, h.raw, h.len⟩
theorem RawAt.below {w w' : World} {A : Option Addr} {cap : Nat} {R : List Int} (h : RawAt w A cap R) (hb : Below w.heap.size w w') : RawAt w' A cap R := ⟨own_below h.own hb, h.raw, h.len⟩
theorem RawAt.far {w : World} {A : Option Addr} {cap g : Nat} {R : List Int} {v : Value} {d : Pl.Dk} {rd : Int} (h : RawAt w A cap R) (hd : DiskAt w g v d rd) : ∀ p, A = some p → ¬ dF g v p.block ∧ p.block < w.heap.size := by
  intro p hp
  obtain ⟨A', cap', e, _, _, hbk⟩ := own_src h.own
  injection e with e1 e2 e3
  have hb := hbk p (by rw [← e1, hp])
  refine ⟨fun e => ?_, (h.own.lt _ hb).2⟩
  obtain ⟨t, h1, h2⟩ := hd.kinds _ e
  have := (own_typ h.own hb).uniq h2
  subst this
  revert h1
  decide

/-- The harness, of which the disk alone is looked at. -/
structure KDisk (B : Nat) (w : World) (gx g : Nat) (pl : Value) (n : Nat) (v vall : Value) (d : Pl.Dk) (rd : Int) (ss : List ByteArray) (safe : Nat) (rs bad : Bool) : Prop where
  blk : Blk w gx 63 (kCellsP g pl n vall safe rs bad)
  disk : DiskAt w g v d rd
  all : w.ownsRow B 9 1 vall ss.length (sv ss)
  low : B ≤ gx ∧ ∀ k, dF g v k → B ≤ k
theorem KMem.disk_ {B : Nat} {w : World} {gx g gl n : Nat} {v va vall : Value} {vs : List Value} {d : Pl.Dk} {rd : Int} {l : Pl.Lg} {ss : List ByteArray} {safe : Nat} {rs bad : Bool} (h : KMem B w gx g gl n v va vall vs d rd l ss safe rs bad) : KDisk B w gx g (.pointer (some ⟨gl, 0, none⟩)) n v vall d rd ss safe rs bad :=
  ⟨h.blk, h.log.disk, h.all, h.low.1, fun k hk => h.low.2 k (.inl (.inl hk))⟩
theorem KDisk.below {B : Nat} {w w' : World} {gx g n : Nat} {pl v vall : Value} {d : Pl.Dk} {rd : Int} {ss : List ByteArray} {safe : Nat} {rs bad : Bool} (h : KDisk B w gx g pl n v vall d rd ss safe rs bad) (hb : Below w.heap.size w w') : KDisk B w' gx g pl n v vall d rd ss safe rs bad :=
  ⟨h.blk.below hb h.blk.lt, h.disk.below hb, own_below h.all hb, h.low⟩
theorem KDisk.disked {B : Nat} {w w' : World} {gx g n : Nat} {pl v vall : Value} {d d' : Pl.Dk} {rd rd' : Int} {ss : List ByteArray} {safe : Nat} {rs bad : Bool} (h : KDisk B w gx g pl n v vall d rd ss safe rs bad) (hd : DiskAt w' g v d' rd') (ho : Only (dF g v) w w') : KDisk B w' gx g pl n v vall d' rd' ss safe rs bad :=
  ⟨ho.blk_ h.disk.kinds h.blk (by decide), hd, ho.own_ h.disk.kinds h.all (by decide), h.low⟩
/-- A block of another type is laid anew. -/
theorem KDisk.setErr {B b : Nat} {w : World} {gx g n : Nat} {pl v vall a0 a1 a2 : Value} {d : Pl.Dk} {rd : Int} {ss : List ByteArray} {safe : Nat} {rs bad : Bool} (h : KDisk B w gx g pl n v vall d rd ss safe rs bad) (hb : Blk w b 27 [a0, a1, a2]) (k : Nat) : KDisk B (set3 w b k) gx g pl n v vall d rd ss safe rs bad := by
  have ho : Only (· = b) w (set3 w b k) :=
    (((Only.refl (· = b) w).setCell (p := ⟨b, 0, none⟩) (.inl rfl) _).setCell (p := ⟨b, 1, none⟩) (.inl rfl) _).setCell (p := ⟨b, 2, none⟩) (.inl rfl) _
  have hk : Kinds (· = b) w [27] := fun x hx => by
    rw [hx]
    exact ⟨_, by simp, hb.typ⟩
  exact ⟨ho.blk_ hk h.blk (by decide), h.disk.set3 hb k, ho.own_ hk h.all (by decide), h.low⟩
theorem RawAt.setErr {b : Nat} {w : World} {a0 a1 a2 : Value} {A : Option Addr} {cap : Nat} {R : List Int} (h : RawAt w A cap R) (hb : Blk w b 27 [a0, a1, a2]) (k : Nat) : RawAt (set3 w b k) A cap R := by
  have ho : Only (· = b) w (set3 w b k) :=
    (((Only.refl (· = b) w).setCell (p := ⟨b, 0, none⟩) (.inl rfl) _).setCell (p := ⟨b, 1, none⟩) (.inl rfl) _).setCell (p := ⟨b, 2, none⟩) (.inl rfl) _
  have hk : Kinds (· = b) w [27] := fun x hx => by
    rw [hx]
    exact ⟨_, by simp, hb.typ⟩
  exact h.only ho hk (by decide)
/-- Another disk. -/
theorem KDisk.moved {B : Nat} {w w' : World} {gx g n g2 : Nat} {pl v v2 vall : Value} {d d2 : Pl.Dk} {rd rd2 : Int} {ss : List ByteArray} {safe : Nat} {rs bad : Bool} (h : KDisk B w gx g pl n v vall d rd ss safe rs bad) (hb : Below w.heap.size w w') (hd : DiskAt w' g2 v2 d2 rd2) (hn : ∀ k, dF g2 v2 k → w.heap.size ≤ k) (hB : B ≤ w.heap.size) :
    KDisk B (w'.setCell ⟨gx, 0, none⟩ (.pointer (some ⟨g2, 0, none⟩))) gx g2 pl n v2 vall d2 rd2 ss safe rs bad := by
  have h1 := h.below hb
  have ho : Only (· = gx) w' (w'.setCell ⟨gx, 0, none⟩ (.pointer (some ⟨g2, 0, none⟩))) := (Only.refl (· = gx) w').setCell (p := ⟨gx, 0, none⟩) (.inl rfl) _
  have hk : Kinds (· = gx) w' [63] := fun x hx => by
    rw [hx]
    exact ⟨_, by simp, h1.blk.typ⟩
  exact ⟨h1.blk.set_ 0 _, hd.onlyT ho hk (by decide) (by decide), ho.own_ hk h1.all (by decide), h1.low.1, fun k hk' => Nat.le_trans hB (hn k hk')⟩
/-- The harness, while another log lies opened beside it. -/
structure KPre (B : Nat) (w : World) (gx g : Nat) (pl : Value) (gl2 n : Nat) (v va2 vall : Value) (vs2 : List Value) (d2 : Pl.Dk) (rd2 : Int) (l2 : Pl.Lg) (ss : List ByteArray) (safe : Nat) (rs bad : Bool) : Prop where
  blk : Blk w gx 63 (kCellsP g pl n vall safe rs bad)
  log : LogSt w gl2 g v va2 vs2 d2 rd2 l2
  all : w.ownsRow B 9 1 vall ss.length (sv ss)
  low : B ≤ gx ∧ ∀ k, lFa gl2 g v va2 k → B ≤ k
theorem KPre.below {B : Nat} {w w' : World} {gx g gl2 n : Nat} {pl v va2 vall : Value} {vs2 : List Value} {d2 : Pl.Dk} {rd2 : Int} {l2 : Pl.Lg} {ss : List ByteArray} {safe : Nat} {rs bad : Bool} (h : KPre B w gx g pl gl2 n v va2 vall vs2 d2 rd2 l2 ss safe rs bad) (hb : Below w.heap.size w w') : KPre B w' gx g pl gl2 n v va2 vall vs2 d2 rd2 l2 ss safe rs bad :=
  ⟨h.blk.below hb h.blk.lt, h.log.below hb, own_below h.all hb, h.low⟩
theorem KPre.setErr {B b : Nat} {w : World} {gx g gl2 n : Nat} {pl v va2 vall a0 a1 a2 : Value} {vs2 : List Value} {d2 : Pl.Dk} {rd2 : Int} {l2 : Pl.Lg} {ss : List ByteArray} {safe : Nat} {rs bad : Bool} (h : KPre B w gx g pl gl2 n v va2 vall vs2 d2 rd2 l2 ss safe rs bad) (hb : Blk w b 27 [a0, a1, a2]) (k : Nat) : KPre B (set3 w b k) gx g pl gl2 n v va2 vall vs2 d2 rd2 l2 ss safe rs bad := by
  have ho : Only (· = b) w (set3 w b k) :=
    (((Only.refl (· = b) w).setCell (p := ⟨b, 0, none⟩) (.inl rfl) _).setCell (p := ⟨b, 1, none⟩) (.inl rfl) _).setCell (p := ⟨b, 2, none⟩) (.inl rfl) _
  have hk : Kinds (· = b) w [27] := fun x hx => by
    rw [hx]
    exact ⟨_, by simp, hb.typ⟩
  exact ⟨ho.blk_ hk h.blk (by decide), h.log.set3 hb _ _ _, ho.own_ hk h.all (by decide), h.low⟩
theorem KDisk.opened {B : Nat} {w w' : World} {gx g n : Nat} {pl v vall : Value} {d d2 : Pl.Dk} {rd : Int} {l2 : Pl.Lg} {ss : List ByteArray} {safe : Nat} {rs bad : Bool} {o : Option Addr} (h : KDisk B w gx g pl n v vall d rd ss safe rs bad) (hop : OpenedAt g v d2 l2 w o w') (hB : B ≤ w.heap.size) :
    ∃ gl2 va2 vs2 rd2, o = some ⟨gl2, 0, none⟩ ∧ KPre B w' gx g pl gl2 n v va2 vall vs2 d2 rd2 l2 ss safe rs bad ∧ Below B w w' := by
  obtain ⟨gl2, va2, vs2, rd2, ho, hst, hgl, hva, hon⟩ := hop
  have hk := h.disk.kinds
  refine ⟨gl2, va2, vs2, rd2, ho, ⟨hon.blk_ hk h.blk (by decide), hst, hon.own_ hk h.all (by decide), ⟨h.low.1, fun k hk' => ?_⟩⟩, only_below hon (fun k hk' => h.low.2 k hk') hB⟩
  rcases hk' with (hk' | hk') | hk'
  · exact h.low.2 k hk'
  · omega
  · exact Nat.le_trans hB (hva k hk')
theorem KPre.taken {B : Nat} {w : World} {gx g gl2 n : Nat} {pl v va2 vall : Value} {vs2 : List Value} {d2 : Pl.Dk} {rd2 : Int} {l2 : Pl.Lg} {ss : List ByteArray} {safe : Nat} {rs bad : Bool} (h : KPre B w gx g pl gl2 n v va2 vall vs2 d2 rd2 l2 ss safe rs bad) :
    KMem B (w.setCell ⟨gx, 1, none⟩ (.pointer (some ⟨gl2, 0, none⟩))) gx g gl2 n v va2 vall vs2 d2 rd2 l2 ss safe rs bad := by
  have ho : Only (· = gx) w (w.setCell ⟨gx, 1, none⟩ (.pointer (some ⟨gl2, 0, none⟩))) := (Only.refl (· = gx) w).setCell (p := ⟨gx, 1, none⟩) (.inl rfl) _
  have hk : Kinds (· = gx) w [63] := fun x hx => by
    rw [hx]
    exact ⟨_, by simp, h.blk.typ⟩
  exact ⟨h.blk.set_ 1 _, h.log.onlyT ho hk (by decide) (by decide) (by decide) (by decide) (by decide), ho.own_ hk h.all (by decide), h.low⟩

/-- A log is opened, or the disk fails on the way. -/
theorem pOpen_maybe (g : Nat) (v : Value) (d d' : Pl.Dk) (first n : Nat) (hGF : ¬ dF g v 0) (hp : placedB d.secs.length first n 4 = true) (hc : Pl.openLog d first n = (d', .inl 3) ∨ ∃ l', Pl.openLog d first n = (d', .inr l')) :
    ∃ kk : Nat, (kk = 3 ∨ kk = 0) ∧ ∀ (w : World) (rd : Int), DiskAt w g v d rd → GE w → Calls Tryd.prog 15 #[.pointer (some ⟨g, 0, none⟩), .int .i64 (first : Nat), .int .i64 (n : Nat)] w fun e w' => ∃ o, e = .returned (.tuple #[.pointer o, errA (kk : Nat) ⟨#[]⟩]) ∧ (kk = 3 → o = none) ∧ (∃ rd', DiskAt w' g v d' rd') ∧ Only (dF g v) w w' := by
  rcases hc with hc | ⟨l', hc⟩
  · refine ⟨3, .inl rfl, fun w rd h hG => (pOpen_none g v d d' rd first n 3 w h hG hGF hp hc (.inr rfl)).mono ?_⟩
    rintro e w' ⟨he, hd, ho⟩
    exact ⟨none, he, fun _ => rfl, hd, ho⟩
  · refine ⟨0, .inr rfl, fun w rd h hG => (pOpen_yes g v d d' rd first n l' w h hG hGF hp hc).mono ?_⟩
    rintro e w' ⟨o, he, gl, va', vs', rd', rfl, hst, _, _, hon⟩
    exact ⟨_, he, (fun h => by cases h), ⟨rd', hst.disk⟩, hon⟩
theorem bad_append (l : Pl.Lg) (d : Pl.Dk) (p : List UInt8) (hb : l.bad = true) (hp : 1 ≤ p.length ∧ p.length ≤ 2000) : ∃ kk, (kk = 3 ∨ kk = 5) ∧ l.append d p = (l, d, kk) := by
  unfold Pl.Lg.append
  rw [if_neg (by omega)]
  by_cases h : l.data < l.next + Pl.chunks p.length
  · rw [if_pos h]; exact ⟨5, .inr rfl, rfl⟩
  · rw [if_neg h, if_pos hb]; exact ⟨3, .inl rfl, rfl⟩
theorem bad_sync (l : Pl.Lg) (d : Pl.Dk) (hb : l.bad = true) : l.sync d = (l, d, 3) := by unfold Pl.Lg.sync; rw [if_pos hb]
theorem bad_reset (l : Pl.Lg) (d : Pl.Dk) (hb : l.bad = true) : l.reset d = (l, d, 3) := by unfold Pl.Lg.reset; rw [if_pos hb]
theorem crash_length (d : Pl.Dk) (raw : List Int) : (d.crash raw).secs.length = d.secs.length := Pl.loses_length _ _
end Go.Proofs.YtljmklohgpaopaaDoor
