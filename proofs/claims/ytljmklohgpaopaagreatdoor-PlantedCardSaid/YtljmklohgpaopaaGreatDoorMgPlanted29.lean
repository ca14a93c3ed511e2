/- The harness over a tree: what is kept from step to step. Plain: the pairs of Lean's tree; how deep it is. No program in sight. The harness over a tree: Put, Take, Save. The harness over a tree: dies, changed. The harness over a tree: opens. -/
import Derived.Test.YtljmklohgpaopaaGreatDoorMgPlanted28
import Derived.Test.YtljmklohgpaopaaGreatDoorMgPlanted3
import Derived.Test.YtljmklohgpaopaaGreatDoorMgPlanted6
import Derived.Deep.CutBlock
set_option linter.unusedVariables false
set_option linter.unusedSimpArgs false

namespace Go.Proofs.YtljmklohgpaopaaGreatDoor
open Go.RowKit
set_option linter.unusedSectionVars false
variable [Inhabited LoT]

theorem ghost_cut (G : Gh) (P : Nat → Pl.Any → Prop) : ∃ G' : Gh, ∀ r x, G' r = some x ↔ G r = some x ∧ P r x := by
  classical
  refine ⟨fun r => match G r with | some x => if P r x then some x else none | none => none, fun r x => ?_⟩
  dsimp only
  cases hg : G r with
  | none => simp
  | some y =>
    dsimp only
    by_cases hp : P r y
    · rw [if_pos hp]
      constructor
      · intro e; cases e; exact ⟨rfl, hp⟩
      · rintro ⟨e, _⟩; exact e
    · rw [if_neg hp]
      constructor
      · intro e; cases e
      · rintro ⟨e, h⟩; cases e; exact absurd h hp
/-- Refs that lie elsewhere are forgotten. -/
theorem Inv.prune {w : World} {G : Gh} {D : Nat → Option (List UInt8)} {n : Nat} {S : List Nat} (js : List Nat) (hi : Inv w G D n S) (hn : n ≤ 4294967296) :
    ∃ G' : Gh, Inv w G' D n js ∧ (∀ r x, G' r = some x → G r = some x) ∧ ∀ (r h : Nat) (t : Pl.Tr h) (s : Pl.ST h) (v : Value), G r = some ⟨h, t⟩ → RefAt w r (Pl.top h s) v → Pl.OnD D n h s t → Pl.Kids h t → (∀ j ∈ Pl.secsOf h s, j ∈ js) → G' r = some ⟨h, t⟩ := by
  obtain ⟨G', hG'⟩ := ghost_cut G (fun r x => ∃ (s : Pl.ST x.1) (v : Value), RefAt w r (Pl.top x.1 s) v ∧ Pl.OnD D n x.1 s x.2 ∧ Pl.Kids x.1 x.2 ∧ ∀ j ∈ Pl.secsOf x.1 s, j ∈ js)
  have keep : ∀ (r h : Nat) (t : Pl.Tr h) (s : Pl.ST h) (v : Value), G r = some ⟨h, t⟩ → RefAt w r (Pl.top h s) v → Pl.OnD D n h s t → Pl.Kids h t → (∀ j ∈ Pl.secsOf h s, j ∈ js) → G' r = some ⟨h, t⟩ :=
    fun r h t s v h1 h2 h3 h4 h5 => (hG' r ⟨h, t⟩).2 ⟨h1, s, v, h2, h3, h4, h5⟩
  refine ⟨G', fun r h t hr => ?_, fun r x hx => ((hG' r x).1 hx).1, keep⟩
  obtain ⟨hg, s, v, hr1, hd, hk, hj⟩ := (hG' r ⟨h, t⟩).1 hr
  dsimp only at s v hr1 hd hk hj
  rcases hi r h t hg with ⟨v', h1, _⟩ | ⟨s', v', h1, h2, _, h4⟩
  · exfalso
    have := (hr1.uniq h1).1
    have := (hd.bounds).1
    omega
  · obtain ⟨e1, e2⟩ := hr1.uniq h1
    obtain rfl : s = s' := Pl.OnD.unique hn h s s' t hk hd h2 e1
    subst e2
    refine .inr ⟨s, v, hr1, hd, hj, h4.imp id fun hp => ?_⟩
    cases h with
    | zero => exact hp
    | succ h =>
      obtain ⟨rs, g1, g2, g3, g4⟩ := hp
      refine ⟨rs, g1, g2, fun i x c hx hc => ?_, g4⟩
      have hci : i < t.2.length := (List.getElem?_eq_some_iff.1 hc).1
      have hsl : s.2.length = t.2.length := hd.2.2.2.1
      obtain ⟨a, ha⟩ : ∃ a, s.2[i]? = some a := ⟨_, List.getElem?_eq_getElem (by rw [hsl]; exact hci)⟩
      obtain ⟨pv, hpv⟩ := g4 s rfl i x a hx ha
      exact keep x h c a pv (g3 i x c hx hc) hpv (hd.2.2.2.2 i a c ha hc) (hk.2 c (List.mem_of_getElem? hc)) (fun j hj' => hj j (Pl.secs_kid ha hj'))
theorem TW.prune {E : TEnv} {w : World} {rd : Int} {G : Gh} (js : List Nat) (hw : TW E w rd G) (hn : E.m.n ≤ 4294967296) :
    ∃ G' : Gh, TW { E with S := js } w rd G' ∧ (∀ r x, G' r = some x → G r = some x) ∧ ∀ (r h : Nat) (t : Pl.Tr h) (s : Pl.ST h) (v : Value), G r = some ⟨h, t⟩ → RefAt w r (Pl.top h s) v → Pl.OnD E.D E.m.n h s t → Pl.Kids h t → (∀ j ∈ Pl.secsOf h s, j ∈ js) → G' r = some ⟨h, t⟩ := by
  obtain ⟨G', h1, h2, h3⟩ := hw.inv.prune js hn
  exact ⟨G', ⟨hw.tree, hw.disk, h1, hw.room, ⟨fun r x hx => hw.low.g r x (h2 r x hx), hw.low.d, hw.low.t⟩⟩, h2, h3⟩
theorem Pl.dcount_two {js : List Nat} (h : ∀ j ∈ js, 2 ≤ j) : ∀ n, 2 ≤ n → Pl.dcount n js + 2 ≤ n
  | 0, h0 => by omega
  | 1, h0 => by omega
  | 2, _ => by
    have h0 : 0 ∉ js := fun hj => by have := h 0 hj; omega
    have h1 : 1 ∉ js := fun hj => by have := h 1 hj; omega
    rw [Pl.dcount_succ, Pl.dcount_succ, if_neg h0, if_neg h1]
    simp [Pl.dcount]
  | n + 3, _ => by
    have := Pl.dcount_two h (n + 2) (by omega)
    rw [Pl.dcount_succ]
    split <;> omega

/-- A tree may be opened on a disk, with these pairs. -/
def Opn (d : Pl.Dk) (n q : Nat) (l : List Pl.Pr) : Prop := ∃ (seq h : Nat) (s : Pl.ST h) (t : Pl.Tr h), Pl.SavedOn d 0 n seq h s t ∧ Pl.RootOk ⟨h, t⟩ ∧ Pl.prs h t = l ∧ seq ≤ q
/-- The tree is well. -/
def PGood (k gT g n : Nat) (vD : Value) (d : Pl.Dk) (rd : Int) (now safe : List Pl.Pr) (w : World) : Prop :=
  ∃ (seq p r r0 fr hs h : Nat) (s : Pl.ST hs) (ts : Pl.Tr hs) (t : Pl.Tr h) (G : Gh), TW ((opEnv gT g 0 n vD d seq p r0 hs s).to r) w rd G ∧ G r = some ⟨h, t⟩ ∧ Pl.RootOk ⟨h, t⟩ ∧ Pl.prs h t = now ∧ FrN w h t r fr ∧ fr + p + 2 ≤ n ∧
    SavedAt ((opEnv gT g 0 n vD d seq p r0 hs s).to r) w G (Pl.secsOf hs s) ∧ G r0 = some ⟨hs, ts⟩ ∧ Pl.RootOk ⟨hs, ts⟩ ∧ Pl.prs hs ts = safe ∧ Pl.SavedOn d 0 n seq hs s ts ∧ (∀ j, (j < 2 ∨ j ∈ Pl.secsOf hs s) → Pl.Firm d (0 + j)) ∧ seq ≤ k + 2
/-- The disk has failed. -/
def PBad (k gT n : Nat) (d : Pl.Dk) (safe next : List Pl.Pr) (sv : Bool) (w : World) : Prop :=
  (∃ m : Tm, TmAt w gT m ∧ m.bad = true) ∧ d.life = 0 ∧ ∀ raw, Opn (d.crash raw) n (k + 2) safe ∨ (sv = true ∧ Opn (d.crash raw) n (k + 2) next)
structure PTree (k gT g n : Nat) (vD : Value) (d : Pl.Dk) (rd : Int) (tb : Bool) (now safe next : List Pl.Pr) (sv : Bool) (w : World) : Prop where
  disk : DiskAt w g vD d rd
  fins : Pl.Fins d.secs
  len : d.secs.length = n
  low : ∀ q, dF g vD q → LO ≤ q
  good : tb = false → PGood k gT g n vD d rd now safe w
  dead : tb = true → PBad k gT n d safe next sv w
/-- What the harness has in memory stays. -/
structure HFr (w w' : World) : Prop where
  blk : ∀ b cs, Blk w b 78 cs → Blk w' b 78 cs
  kp : ∀ v l, KpAt w v l → KpAt w' v l
  gk : Gk w w'
theorem HFr.trans {a b c : World} (h : HFr a b) (k : HFr b c) : HFr a c := ⟨fun x cs hb => k.blk x cs (h.blk x cs hb), fun v l hk => k.kp v l (h.kp v l hk), h.gk.trans k.gk⟩
theorem HFr.of_below {w w' : World} (h : Below w.heap.size w w') : HFr w w' := ⟨fun _ _ hb => hb.below h hb.lt, fun _ _ hk => hk.below h, Gk.of_below h⟩
theorem HFr.of_sfr {ts : List TypeId} {w w' : World} (h : SFr ts w w') (hg : Gk w w') (h1 : 78 ∉ ts) (h2 : 192 ∉ ts) : HFr w w' := ⟨fun _ _ hb => h.blk hb h1, fun _ _ hk => hk.sfr h h2, hg⟩
theorem HFr.of_tft {gT : Nat} {m : Tm} {w w' : World} (h : TFt gT w w') (hT : TmAt w gT m) : HFr w w' :=
  ⟨fun _ _ hb => h.blk hb (by decide), fun _ _ hk => by obtain ⟨F, h1, h2⟩ := h.only; exact hk.only h1 h2 (by decide), ⟨fun he => he.tft hT h, fun hg => hg.tft hT h, h.low⟩⟩
theorem PGood.below {k gT g n : Nat} {vD : Value} {d : Pl.Dk} {rd : Int} {now safe : List Pl.Pr} {w w' : World} (h : PGood k gT g n vD d rd now safe w) (hb : Below w.heap.size w w') : PGood k gT g n vD d rd now safe w' := by
  obtain ⟨seq, p, r, r0, fr, hs, h, s, ts, t, G, h1, h2, h3, h4, h5, h6, h7, h8⟩ := h
  exact ⟨seq, p, r, r0, fr, hs, h, s, ts, t, G, h1.below hb, h2, h3, h4, FrN.u (fun v pg hp => hp.below hb) (UFr.of_below hb).2.1 h t _ _ h5, h6, h7.below hb, h8⟩
theorem PTree.below {k gT g n : Nat} {vD : Value} {d : Pl.Dk} {rd : Int} {tb : Bool} {now safe next : List Pl.Pr} {sv : Bool} {w w' : World} (h : PTree k gT g n vD d rd tb now safe next sv w) (hb : Below w.heap.size w w') : PTree k gT g n vD d rd tb now safe next sv w' :=
  ⟨h.disk.below hb, h.fins, h.len, h.low, fun e => (h.good e).below hb, fun e => by obtain ⟨⟨m, h1, h2⟩, h3⟩ := h.dead e; exact ⟨⟨m, h1.below hb h1.lt, h2⟩, h3⟩⟩
theorem PGood.later {k k' gT g n : Nat} {vD : Value} {d : Pl.Dk} {rd : Int} {now safe : List Pl.Pr} {w : World} (h : PGood k gT g n vD d rd now safe w) (hk : k ≤ k') : PGood k' gT g n vD d rd now safe w := by
  obtain ⟨seq, p, r, r0, fr, hs, h, s, ts, t, G, h1, h2, h3, h4, h5, h6, h7, h8, h9, h10, h11, h12, h13⟩ := h
  exact ⟨seq, p, r, r0, fr, hs, h, s, ts, t, G, h1, h2, h3, h4, h5, h6, h7, h8, h9, h10, h11, h12, by omega⟩
theorem Opn.later {d : Pl.Dk} {n q q' : Nat} {l : List Pl.Pr} (h : Opn d n q l) (hq : q ≤ q') : Opn d n q' l := by
  obtain ⟨seq, h, s, t, h1, h2, h3, h4⟩ := h
  exact ⟨seq, h, s, t, h1, h2, h3, by omega⟩
theorem PTree.later {k k' gT g n : Nat} {vD : Value} {d : Pl.Dk} {rd : Int} {tb : Bool} {now safe next : List Pl.Pr} {sv : Bool} {w : World} (h : PTree k gT g n vD d rd tb now safe next sv w) (hk : k ≤ k') : PTree k' gT g n vD d rd tb now safe next sv w :=
  ⟨h.disk, h.fins, h.len, h.low, fun e => (h.good e).later hk, fun e => by obtain ⟨h1, h2, h3⟩ := h.dead e; exact ⟨h1, h2, fun raw => (h3 raw).imp (fun h => h.later (by omega)) (fun h => ⟨h.1, h.2.later (by omega)⟩)⟩⟩
theorem PTree.next {k gT g n : Nat} {vD : Value} {d : Pl.Dk} {rd : Int} {now safe next next' : List Pl.Pr} {sv sv' : Bool} {w : World} (h : PTree k gT g n vD d rd false now safe next sv w) : PTree k gT g n vD d rd false now safe next' sv' w :=
  ⟨h.disk, h.fins, h.len, h.low, h.good, fun e => by cases e⟩
/-- What a crash leaves of a tree that is well. -/
theorem PGood.opn {k gT g n : Nat} {vD : Value} {d : Pl.Dk} {rd : Int} {now safe : List Pl.Pr} {w : World} (h : PGood k gT g n vD d rd now safe w) (hf : Pl.Fins d.secs) (hlen : d.secs.length = n) (hn : 2 ≤ n) (raw : List Int) : Opn (d.crash raw) n (k + 2) safe := by
  obtain ⟨seq, p, r, r0, fr, hs, h, s, ts, t, G, h1, h2, h3, h4, h5, h6, h7, h8, h9, h10, h11, h12, h13⟩ := h
  exact ⟨seq, hs, s, ts, h11.look (fun j hj => (h12 j hj).crash hf (h11.inr_ hn (by omega) hj) raw), h9, h10, h13⟩
theorem FrN.saved {w : World} {h : Nat} {t : Pl.Tr h} {r a : Nat} {v : Value} (hr : RefAt w r a v) (ha : a ≠ 0) : FrN w h t r 0 := by
  cases h with
  | zero => exact ⟨a, v, hr, .inl ⟨ha, rfl⟩⟩
  | succ h => exact ⟨a, v, hr, .inl ⟨ha, rfl⟩⟩
end Go.Proofs.YtljmklohgpaopaaGreatDoor

namespace Go.Proofs.YtljmklohgpaopaaGreatDoor
namespace Pl

theorem RootOk.small {x : Any} (h : RootOk x) {n : Nat} (hn : x.prs.length ≤ n) (h1 : 1 ≤ n) : pgs x.1 x.2 ≤ 2 * n ∧ 2 ^ x.1 ≤ n := by
  obtain ⟨k, t⟩ := x
  cases k with
  | zero => exact ⟨by show 1 ≤ _; omega, by simpa using h1⟩
  | succ k =>
    have hf : Fit (k + 1) t := h.1
    have h2 := Fit.pages _ _ hf
    have h3 := Fit.many _ _ hf
    have h4 : (prs (k + 1) t).length ≤ n := hn
    exact ⟨by show pgs (k + 1) t ≤ _; omega, by show 2 ^ (k + 1) ≤ n; omega⟩
end Pl
end Go.Proofs.YtljmklohgpaopaaGreatDoor

namespace Go.Proofs.YtljmklohgpaopaaGreatDoor
open Go.RowKit
set_option linter.unusedSectionVars false
variable [Inhabited LoT]

theorem PGood.bounds {x : Pl.Any} (hok : Pl.RootOk x) (hl : x.prs.length ≤ 5000) : x.1 ≤ 13 ∧ Pl.pgs x.1 x.2 ≤ 10000 := by
  have := Pl.RootOk.small hok (n := 5000) hl (by omega)
  exact ⟨Pl.low_height' this.2 (by omega), by omega⟩
/-- A dead disk. -/
theorem PTree.dies {k gT g n : Nat} {vD : Value} {d : Pl.Dk} {rd rd' : Int} {now now' safe next : List Pl.Pr} {sv : Bool} {w w' : World} (h : PTree k gT g n vD d rd false now safe next sv w) (hn : 2 ≤ n) (hd : DiskAt w' g vD d rd') (h0 : d.life = 0) {m : Tm} (hm : TmAt w' gT m) (hb : m.bad = true) : PTree k gT g n vD d rd' true now' safe next sv w' :=
  ⟨hd, h.fins, h.len, h.low, (fun e => by cases e), fun _ => ⟨⟨m, hm, hb⟩, h0, fun raw => .inl ((h.good rfl).opn h.fins h.len hn raw)⟩⟩
/-- How Put ends for the harness. -/
def PutR (kd : Nat) (tb tb' : Bool) (a a' b : List Pl.Pr) : Prop := (kd = 0 ∧ tb = false ∧ tb' = false ∧ a' = b) ∨ (kd = 5 ∧ tb = false ∧ tb' = false ∧ a' = a) ∨ (kd = 3 ∧ tb' = true)
theorem pt_put {k gT g n : Nat} {vD : Value} {d : Pl.Dk} {rd : Int} {tb : Bool} {now safe next : List Pl.Pr} {sv : Bool} {w : World} (hp : PTree k gT g n vD d rd tb now safe next sv w) (hn : 16 ≤ n ∧ n ≤ 4096) (hl : now.length ≤ 4500) (hev : EvAt w) (hge : GE w)
    (key v : Pl.Key) (hkf : Pl.KeyFit key) (hvf : v.length ≤ 100) (A B : Option Addr) (ca cb : Nat) (hA : BytesAt w A key) (hB : BytesAt w B v) :
    Calls Tryz.prog 21 #[.pointer (some ⟨gT, 0, none⟩), .slice A key.length ca, .slice B v.length cb] w fun e w' => ∃ (kd : Nat) (tb' : Bool) (now' : List Pl.Pr) (rd' : Int), e = .returned (errA (kd : Nat) ⟨#[]⟩) ∧ PutR kd tb tb' now now' (Pl.setL key v false now) ∧ PTree k gT g n vD d rd' tb' now' safe next sv w' ∧ HFr w w' := by
  cases tb with
  | true =>
    obtain ⟨⟨m, hm, hb⟩, _⟩ := hp.dead rfl
    refine (pput_bad gT m A B ca cb key v hkf hvf w hm hb hge hA hB).mono ?_
    rintro e w' ⟨rfl, hb'⟩
    exact ⟨3, true, now, rd, rfl, .inr (.inr ⟨rfl, rfl⟩), hp.below hb', .of_below hb'⟩
  | false =>
    obtain ⟨seq, p, r, r0, fr, hs, h, s, ts, t, G, h1, h2, h3, rfl, h5, h6, h7, h8, h9, h10, h11, h12, h13⟩ := hp.good rfl
    have hb1 := PGood.bounds h3 (by show (Pl.prs h t).length ≤ 5000; omega)
    have hpp := Pl.put_prs (k := key) (v := v) h3
    have hpl := Pl.putL_len key v (Pl.prs h t)
    have hb2 := PGood.bounds (Pl.put_ok hkf hvf h3) (by rw [hpp]; show (Pl.putL key v (Pl.prs h t)).length ≤ 5000; omega)
    have hset := Pl.setL_put (k := key) (v := v) h3.srt
    have hT := h1.tree
    refine (pput_any ((opEnv gT g 0 n vD d seq p r0 hs s).to r) A B ca cb key v hkf hvf hn.2 (show p ≤ 4096 by omega) rfl h t w rd G h1 h2 h3 (by have := hb1.1; dsimp only at this; omega) (by have := hb2.2; omega) hev hge hA hB).mono ?_
    rintro e w' ⟨kd, rfl, q0, q1⟩
    have hfr : HFr w w' := .of_tft q0 hT
    rcases q1 with ⟨rfl, G', rd', r', fr', g1, g2, g3, g4, g5, g6⟩ | ⟨rfl, G', rd', fr', g1, g2, g3⟩ | ⟨rfl, g1, ⟨rd', g2⟩, g3⟩ | ⟨_, g1, _⟩
    · refine ⟨0, false, _, rd', rfl, .inl ⟨rfl, rfl, rfl, rfl⟩, ⟨g1.disk, hp.fins, hp.len, hp.low, fun _ => ?_, fun e => by cases e⟩, hfr⟩
      exact ⟨seq, p, r', r0, fr', hs, _, s, ts, _, G', g1, g3, Pl.put_ok hkf hvf h3, by rw [show Pl.setL key v false (Pl.prs h t) = Pl.putL key v (Pl.prs h t) from hset]; exact hpp, g4, g5, h7.refs g2 q0.refs r', g2 _ _ h8, h9, h10, h11, h12, h13⟩
    · refine ⟨5, false, _, rd', rfl, .inr (.inl ⟨rfl, rfl, rfl, rfl⟩), ⟨g1.disk, hp.fins, hp.len, hp.low, fun _ => ?_, fun e => by cases e⟩, hfr⟩
      exact ⟨seq, p, r, r0, fr, hs, h, s, ts, t, G', g1, g2 _ _ h2, h3, rfl, FrN.u (fun v pg hp => by obtain ⟨F, o1, o2⟩ := q0.only; exact hp.only o1 o2 (by decide)) q0.refs h t _ _ h5, h6, h7.refs g2 q0.refs r, g2 _ _ h8, h9, h10, h11, h12, h13⟩
    · exact ⟨3, true, Pl.prs h t, rd', rfl, .inr (.inr ⟨rfl, rfl⟩), hp.dies (by omega) g2 g1 g3 rfl, hfr⟩
    · exact g1.elim
def TakeR (kd : Nat) (tb tb' : Bool) (has : Bool) (a a' b : List Pl.Pr) : Prop := (kd = 0 ∧ tb = false ∧ tb' = false ∧ has = true ∧ a' = b) ∨ (kd = 5 ∧ tb = false ∧ tb' = false ∧ has = true ∧ a' = a) ∨ (kd = 8 ∧ tb = false ∧ tb' = false ∧ has = false ∧ a' = a) ∨ (kd = 3 ∧ tb' = true)
theorem pt_take {k gT g n : Nat} {vD : Value} {d : Pl.Dk} {rd : Int} {tb : Bool} {now safe next : List Pl.Pr} {sv : Bool} {w : World} (hp : PTree k gT g n vD d rd tb now safe next sv w) (hn : 16 ≤ n ∧ n ≤ 4096) (hl : now.length ≤ 4500) (hev : EvAt w) (hge : GE w)
    (key : Pl.Key) (hkf : Pl.KeyFit key) (A : Option Addr) (ca : Nat) (hA : BytesAt w A key) :
    Calls Tryz.prog 59 #[.pointer (some ⟨gT, 0, none⟩), .slice A key.length ca] w fun e w' => ∃ (kd : Nat) (tb' : Bool) (now' : List Pl.Pr) (rd' : Int), e = .returned (errA (kd : Nat) ⟨#[]⟩) ∧ TakeR kd tb tb' (Pl.hasP key now) now now' (Pl.setL key [] true now) ∧ PTree k gT g n vD d rd' tb' now' safe next sv w' ∧ HFr w w' := by
  cases tb with
  | true =>
    obtain ⟨⟨m, hm, hb⟩, _⟩ := hp.dead rfl
    refine (ptake_bad gT m A ca key hkf w hm hb hge hA).mono ?_
    rintro e w' ⟨rfl, hb'⟩
    exact ⟨3, true, now, rd, rfl, .inr (.inr (.inr ⟨rfl, rfl⟩)), hp.below hb', .of_below hb'⟩
  | false =>
    obtain ⟨seq, p, r, r0, fr, hs, h, s, ts, t, G, h1, h2, h3, rfl, h5, h6, h7, h8, h9, h10, h11, h12, h13⟩ := hp.good rfl
    have hb1 := PGood.bounds h3 (by show (Pl.prs h t).length ≤ 5000; omega)
    have hsrt : Pl.Srt (Pl.prs h t) := h3.srt
    have hhas : Pl.hasP key (Pl.prs h t) = Pl.hasL key (Pl.leafOf h t key) := (Pl.hasP_has hsrt).trans (Pl.leaf_has (k := key) h3).symm
    have hhl : Pl.hasL key (Pl.prs h t) = Pl.hasP key (Pl.prs h t) := (Pl.hasP_has hsrt).symm
    have hpgs : Pl.pgs (Pl.newRoot (Pl.delL key) key ⟨h, t⟩).1 (Pl.newRoot (Pl.delL key) key ⟨h, t⟩).2 ≤ 10000 := by
      obtain ⟨A, B, e1, e2, _⟩ := Pl.newRoot_parts (Pl.delL key) key h3
      refine (PGood.bounds (Pl.del_ok (k := key) h3) ?_).2
      have := Pl.delL_len (k := key) (Pl.leafOf h t key)
      have e3 : (Pl.prs h t).length = (A ++ Pl.leafOf h t key ++ B).length := congrArg List.length e1
      rw [e2, List.length_append, List.length_append]
      rw [List.length_append, List.length_append] at e3
      dsimp only
      omega
    have hT := h1.tree
    refine (ptake_any ((opEnv gT g 0 n vD d seq p r0 hs s).to r) A ca key hkf hn.2 (show p ≤ 4096 by omega) rfl h t w rd G h1 h2 h3 (by have := hb1.1; dsimp only at this; omega) (by omega) hev hge hA).mono ?_
    rintro e w' ⟨kd, rfl, q0, q1⟩
    have hfr : HFr w w' := .of_tft q0 hT
    have hpg : ∀ v pg, PgAt w v pg → PgAt w' v pg := fun v pg hp => by obtain ⟨F, o1, o2⟩ := q0.only; exact hp.only o1 o2 (by decide)
    rcases q1 with ⟨rfl, G', rd', r', fr', g1, g2, g3, g4, g5, g6, g7⟩ | ⟨rfl, G', rd', fr', g1, g2, g3, g4, g5, g6⟩ | ⟨rfl, g1, ⟨rd', g2⟩, g3⟩ | ⟨rfl, g0, G', rd', g1, g2, g3⟩
    · have hh : Pl.hasP key (Pl.prs h t) = true := by rw [hhas]; simpa using g7
      refine ⟨0, false, _, rd', rfl, .inl ⟨rfl, rfl, rfl, hh, rfl⟩, ⟨g1.disk, hp.fins, hp.len, hp.low, fun _ => ?_, fun e => by cases e⟩, hfr⟩
      exact ⟨seq, p, r', r0, fr', hs, _, s, ts, _, G', g1, g3, Pl.del_ok h3, by rw [show Pl.setL key [] true (Pl.prs h t) = Pl.delL key (Pl.prs h t) from Pl.setL_del h3.srt (by rw [← hh]; exact hhl)]; exact Pl.del_prs h3 (by rw [← hh]; exact hhl), g4, g5, h7.refs g2 q0.refs r', g2 _ _ h8, h9, h10, h11, h12, h13⟩
    · have hh : Pl.hasP key (Pl.prs h t) = true := by rw [hhas]; simpa using g6
      refine ⟨5, false, _, rd', rfl, .inr (.inl ⟨rfl, rfl, rfl, hh, rfl⟩), ⟨g1.disk, hp.fins, hp.len, hp.low, fun _ => ?_, fun e => by cases e⟩, hfr⟩
      exact ⟨seq, p, r, r0, fr, hs, h, s, ts, t, G', g1, g2 _ _ h2, h3, rfl, FrN.u hpg q0.refs h t _ _ h5, h6, h7.refs g2 q0.refs r, g2 _ _ h8, h9, h10, h11, h12, h13⟩
    · exact ⟨3, true, Pl.prs h t, rd', rfl, .inr (.inr (.inr ⟨rfl, rfl⟩)), hp.dies (by omega) g2 g1 g3 rfl, hfr⟩
    · refine ⟨8, false, _, rd', rfl, .inr (.inr (.inl ⟨rfl, rfl, rfl, by rw [hhas]; exact g0, rfl⟩)), ⟨g1.disk, hp.fins, hp.len, hp.low, fun _ => ?_, fun e => by cases e⟩, hfr⟩
      exact ⟨seq, p, r, r0, fr, hs, h, s, ts, t, G', g1, g2 _ _ h2, h3, rfl, FrN.u hpg q0.refs h t _ _ h5, h6, h7.refs g2 q0.refs r, g2 _ _ h8, h9, h10, h11, h12, h13⟩
theorem pt_save {k gT g n : Nat} {vD : Value} {d : Pl.Dk} {rd : Int} {tb : Bool} {now safe next : List Pl.Pr} {sv : Bool} {w : World} (hp : PTree k gT g n vD d rd tb now safe next sv w) (hn : 16 ≤ n ∧ n ≤ 4096) (hk : k ≤ 5000) (hl : now.length ≤ 4500) (hl2 : safe.length ≤ 4500) (hev : EvAt w) (hge : GE w) :
    Calls Tryz.prog 23 #[.pointer (some ⟨gT, 0, none⟩)] w fun e w' => ∃ (kd : Nat) (tb' : Bool) (d' : Pl.Dk) (rd' : Int), e = .returned (errA (kd : Nat) ⟨#[]⟩) ∧ HFr w w' ∧
      ((kd = 0 ∧ tb = false ∧ PTree (k + 1) gT g n vD d' rd' false now now next sv w') ∨ (kd = 3 ∧ tb = false ∧ PTree (k + 1) gT g n vD d' rd' true now safe now true w') ∨ (kd = 3 ∧ tb = true ∧ PTree k gT g n vD d' rd' true now safe next sv w')) := by
  cases tb with
  | true =>
    obtain ⟨⟨m, hm, hb⟩, _⟩ := hp.dead rfl
    refine (psave_bad gT m w hm hb hge).mono ?_
    rintro e w' ⟨rfl, hb'⟩
    exact ⟨3, true, d, rd, rfl, .of_below hb', .inr (.inr ⟨rfl, rfl, hp.below hb'⟩)⟩
  | false =>
    obtain ⟨seq, p, r, r0, fr, hs, h, s, ts, t, G, h1, h2, h3, h4, h5, h6, h7, h8, h9, h10, h11, h12, h13⟩ := hp.good rfl
    subst h4
    subst h10
    have hb1 := PGood.bounds h3 (by show (Pl.prs h t).length ≤ 5000; omega)
    have hb2 := PGood.bounds h9 (by show (Pl.prs hs ts).length ≤ 5000; omega)
    dsimp only at hb1 hb2
    have hsl : (Pl.secsOf hs s).length ≤ 20000 := by
      have := Pl.secs_len hs s ts h11.on
      omega
    have hin : SvIn ((opEnv gT g 0 n vD d seq p r0 hs s).to r) w rd G h t fr (Pl.secsOf hs s) :=
      ⟨h1, h2, h3, by omega, h5, h6, hn.2, h7, hev, fun j hj => hj, hsl, by show seq + 1 < 18446744073709551616; omega, by omega⟩
    refine (psave_any _ h t fr (Pl.secsOf hs s) w rd G hin rfl hge).mono ?_
    rintro e w' ⟨kd, rfl, q0, q1, q2⟩
    have hfr : HFr w w' := .of_sfr q0 q1 (by decide) (by decide)
    have hlen : 0 + n ≤ d.secs.length := by rw [hp.len]; omega
    rcases q2 with ⟨rfl, e1, g1, g9⟩ | ⟨rfl, g1, l, d', rd', g2, g3, g4⟩ | ⟨l, d1, d2, ok, s2, rd', g1, g2, g3, g4, rfl, g6, g7, g8⟩
    · have e2 : r0 = r := Option.some.inj e1
      subst e2
      rw [h2] at h8
      injection h8 with h8
      injection h8 with e3 e4
      subst e3
      obtain rfl := eq_of_heq e4
      refine ⟨0, false, d, rd, rfl, hfr, .inl ⟨rfl, rfl, g1.disk, hp.fins, hp.len, hp.low, fun _ => ?_, fun e => by cases e⟩⟩
      refine ⟨seq, p, r0, r0, fr, h, h, s, t, t, G, g1, h2, h3, rfl, FrN.cells g9 (fun v pg hp => q0.pg hp (by decide)) h t _ _ h5, h6, ?_, h2, h3, rfl, h11, h12, by omega⟩
      rcases h7 with h7 | ⟨rs, hs', ts', ss, v, a1, a2, a3, a4, a5, a6, a7, a8⟩
      · exact .inl h7
      · exact .inr ⟨rs, hs', ts', ss, v, a1, a2, a3, a4, g9 _ _ _ a5, a6, a7, a8⟩
    · obtain ⟨f1, f2, f3, f4⟩ := Pl.fail_one h11 hp.fins h12 (by omega) hlen g2 g3
      exact ⟨3, true, d', rd', rfl, hfr, .inr (.inl ⟨rfl, rfl, g4, f1, by rw [f3]; exact hp.len, hp.low, (fun e => by cases e), fun _ => ⟨⟨_, g1, rfl⟩, f2, fun raw => .inl ⟨seq, hs, s, ts, f4 raw, h9, rfl, by omega⟩⟩⟩)⟩
    · cases ok with
      | false =>
        obtain ⟨f1, f2, f3, f4⟩ := Pl.fail_two h11 hp.fins (by omega) hlen g1 g2 g3 g4 (by omega)
        exact ⟨3, true, d2, rd', rfl, hfr, .inr (.inl ⟨rfl, rfl, g6, f1, by rw [f3]; exact hp.len, hp.low, (fun e => by cases e), fun _ => ⟨⟨_, g7 rfl, rfl⟩, f2, fun raw => (f4 raw).imp (fun x => ⟨seq, hs, s, ts, x, h9, rfl, by omega⟩) (fun x => ⟨rfl, seq + 1, h, s2, t, x, h3, rfl, by omega⟩)⟩⟩)⟩
      | true =>
        obtain ⟨f1, f2, f3, f4⟩ := Pl.saved_on h11 hp.fins (by omega) hlen g1 g2 g3 g4 (by omega)
        obtain ⟨S', G', v, k1, k2, k3, k4, k5⟩ := g8 rfl
        obtain ⟨G2, p1, p2, p3⟩ := k1.prune (Pl.secsOf h s2) (by show n ≤ 4294967296; omega)
        have hon : Pl.OnD (fun j => d2.look (0 + j)) n h s2 t := f4.on
        have hG2 : G2 r = some ⟨h, t⟩ := p3 r h t s2 v (k2 _ _ h2) k4 hon (Pl.RFit.kids _ _ h3.1) (fun j hj => hj)
        have hbd := hon.bounds
        refine ⟨0, false, d2, rd', rfl, hfr, .inl ⟨rfl, rfl, g6, f1, by rw [f2]; exact hp.len, hp.low, fun _ => ?_, fun e => by cases e⟩⟩
        exact ⟨seq + 1, Pl.dcount n (Pl.secsOf h s2), r, r, 0, h, h, s2, t, t, G2, p1, hG2, h3, rfl, FrN.saved k4 (by omega), by have := Pl.dcount_two (fun j hj => (hon.all _ _ _ j hj).1) n (by omega); omega,
          .inr ⟨r, h, t, s2, v, rfl, hG2, h3, by omega, k4, hon, rfl, rfl⟩, hG2, h3, rfl, f4, fun j _ => f3 _, by omega⟩
end Go.Proofs.YtljmklohgpaopaaGreatDoor

namespace Go.Proofs.YtljmklohgpaopaaGreatDoor
open Go.RowKit
set_option linter.unusedSectionVars false
variable [Inhabited LoT]

set_option maxHeartbeats 1000000 in
theorem pdies_any (gx g : Nat) (v c1 c2 c3 c4 c5 c6 : Value) (b : Bool) (d : Pl.Dk) (rd : Int) (w : World) (hb : Blk w gx 78 [.pointer (some ⟨g, 0, none⟩), c1, c2, c3, c4, c5, c6, .bool b]) (hd : DiskAt w g v d rd) (h0 : d.life = 0) :
    Calls Tryz.prog 61 #[.pointer (some ⟨gx, 0, none⟩), errA 3 ⟨#[]⟩] w fun e w' => e = .returned (.bool true) ∧ ∃ w2, Below w.heap.size w w2 ∧ w' = w2.setCell ⟨gx, 7, none⟩ (.bool true) := by
  obtain ⟨w1, hw1⟩ : ∃ w1, w.alloc (.cells #[.int .i64 3, .string ⟨#[]⟩, .bool true] 28) = w1 := ⟨_, rfl⟩
  have hb1 : Below w.heap.size w w1 := by rw [← hw1]; exact (Below.refl _ _).alloc (Nat.le_refl _) _
  have BE : Blk w1 w.heap.size 28 [.int .i64 3, .string ⟨#[]⟩, .bool true] := by rw [← hw1]; exact Blk.new w 28 _
  have HBX := Lib.hid hb
  have HB1 := Lib.hid hb1
  have HBE := Lib.hid BE
  have hx1 := HBX.out.below hb1 HBX.out.lt
  have k0 := hx1.cell 0
  simp only [List.getElem?_cons_zero, List.getElem?_cons_succ] at k0
  have HDD := Lib.hid (dead_any g v d rd w1 (hd.below hb1))
  rw [h0] at HDD
  clear hb hd hb1 h0 BE hx1
  unfold errA
  go_enter Tryz.func61, Tryz.ntmps61
  go_wp2_with fail
  refine HDD.out.mono ?_
  rintro e w' ⟨rfl, rfl⟩
  obtain ⟨z0, z1, z2, _, _, _⟩ := facts3 HBE.out
  go_wp2_with fail
  refine (failed_any 3 _).mono ?_
  rintro e w2 ⟨rfl, hb2⟩
  have hb12 : Below w.heap.size w w2 := HB1.out.trans (hb2.mono HB1.out.size)
  have hx2 := HBX.out.below hb12 HBX.out.lt
  have k7 := hx2.cell 7
  have f7 := hx2.frozen 7
  simp only [List.getElem?_cons_zero, List.getElem?_cons_succ] at k7
  have HB12 := Lib.hid hb12
  clear hb2 hb12 hx2 z0 z1 z2
  cases b
  · go_wp2_with fail
    go_ret
    exact ⟨rfl, w2, HB12.out, rfl⟩
  · go_wp2_with fail
    go_ret
    exact ⟨rfl, w2, HB12.out, rfl⟩
set_option maxHeartbeats 1000000 in
theorem pchanged_ok (gx : Nat) (A : Option Addr) (m cap : Nat) (c0 c1 c2 c3 c4 c5 c6 : Value) (b : Bool) (w : World) (hb : Blk w gx 78 [c0, c1, c2, c3, c4, c5, c6, .bool b]) :
    Calls Tryz.prog 57 #[.pointer (some ⟨gx, 0, none⟩), errA 0 ⟨#[]⟩, .slice A m cap] w fun e w' => e = .returned (.bool (!b)) ∧ ∃ w2, Below w.heap.size w w2 ∧ w' = w2.setCell ⟨gx, 3, none⟩ (.slice A m cap) := by
  obtain ⟨w1, hw1⟩ : ∃ w1, w.alloc (.cells #[.int .i64 0, .string ⟨#[]⟩, .bool true] 28) = w1 := ⟨_, rfl⟩
  have hb1 : Below w.heap.size w w1 := by rw [← hw1]; exact (Below.refl _ _).alloc (Nat.le_refl _) _
  have BE : Blk w1 w.heap.size 28 [.int .i64 0, .string ⟨#[]⟩, .bool true] := by rw [← hw1]; exact Blk.new w 28 _
  have HBX := Lib.hid hb
  have HB1 := Lib.hid hb1
  obtain ⟨z0, z1, z2, _, _, _⟩ := facts3 BE
  clear hb hb1 BE
  unfold errA
  go_enter Tryz.func57, Tryz.ntmps57
  go_wp2_with fail
  refine (fine_any 0 _).mono ?_
  rintro e w2 ⟨rfl, hb2⟩
  have hb12 : Below w.heap.size w w2 := HB1.out.trans (hb2.mono HB1.out.size)
  have hx2 := HBX.out.below hb12 HBX.out.lt
  have k7 := hx2.cell 7
  have f3 := hx2.frozen 3
  have k3 := hx2.cell 3
  simp only [List.getElem?_cons_zero, List.getElem?_cons_succ] at k7 k3
  have HB12 := Lib.hid hb12
  clear hb2 hb12 hx2 z0 z1 z2
  go_wp2_with fail
  go_ret
  exact ⟨rfl, w2, HB12.out, rfl⟩
set_option maxHeartbeats 1000000 in
theorem pchanged_full (gx : Nat) (lv c0 c1 c2 c3 c4 c5 c6 : Value) (b : Bool) (w : World) (hb : Blk w gx 78 [c0, c1, c2, c3, c4, c5, c6, .bool b]) :
    Calls Tryz.prog 57 #[.pointer (some ⟨gx, 0, none⟩), errA 5 ⟨#[]⟩, lv] w fun e w' => e = .returned (.bool (!b)) ∧ Below w.heap.size w w' := by
  obtain ⟨w1, hw1⟩ : ∃ w1, w.alloc (.cells #[.int .i64 5, .string ⟨#[]⟩, .bool true] 28) = w1 := ⟨_, rfl⟩
  have hb1 : Below w.heap.size w w1 := by rw [← hw1]; exact (Below.refl _ _).alloc (Nat.le_refl _) _
  have BE : Blk w1 w.heap.size 28 [.int .i64 5, .string ⟨#[]⟩, .bool true] := by rw [← hw1]; exact Blk.new w 28 _
  have HBX := Lib.hid hb
  have HB1 := Lib.hid hb1
  have HBE := Lib.hid BE
  obtain ⟨z0, z1, z2, _, _, _⟩ := facts3 BE
  clear hb hb1 BE
  unfold errA
  go_enter Tryz.func57, Tryz.ntmps57
  go_wp2_with fail
  refine (fine_any 5 _).mono ?_
  rintro e w2 ⟨rfl, hb2⟩
  have hb12 : Below w.heap.size w w2 := HB1.out.trans (hb2.mono HB1.out.size)
  have hx2 := HBX.out.below hb12 HBX.out.lt
  have k7 := hx2.cell 7
  simp only [List.getElem?_cons_zero, List.getElem?_cons_succ] at k7
  have HB12 := Lib.hid hb12
  clear z0 z1 z2
  obtain ⟨z0, z1, z2, _, _, _⟩ := facts3 (HBE.out.below hb2 HBE.out.lt)
  clear hb2 hb12 hx2
  go_wp2_with fail
  go_ret
  exact ⟨rfl, HB12.out⟩
set_option maxHeartbeats 1000000 in
theorem pchanged_dies (gx g : Nat) (v lv c1 c2 c3 c4 c5 c6 : Value) (b : Bool) (d : Pl.Dk) (rd : Int) (w : World) (hb : Blk w gx 78 [.pointer (some ⟨g, 0, none⟩), c1, c2, c3, c4, c5, c6, .bool b]) (hd : DiskAt w g v d rd) (h0 : d.life = 0) :
    Calls Tryz.prog 57 #[.pointer (some ⟨gx, 0, none⟩), errA 3 ⟨#[]⟩, lv] w fun e w' => e = .returned (.bool true) ∧ ∃ w2, Below w.heap.size w w2 ∧ w' = w2.setCell ⟨gx, 7, none⟩ (.bool true) := by
  obtain ⟨w1, hw1⟩ : ∃ w1, w.alloc (.cells #[.int .i64 3, .string ⟨#[]⟩, .bool true] 28) = w1 := ⟨_, rfl⟩
  have hb1 : Below w.heap.size w w1 := by rw [← hw1]; exact (Below.refl _ _).alloc (Nat.le_refl _) _
  have BE : Blk w1 w.heap.size 28 [.int .i64 3, .string ⟨#[]⟩, .bool true] := by rw [← hw1]; exact Blk.new w 28 _
  have HBX := Lib.hid hb
  have HD := Lib.hid hd
  have HL := Lib.hid h0
  have HB1 := Lib.hid hb1
  have HBE := Lib.hid BE
  obtain ⟨z0, z1, z2, _, _, _⟩ := facts3 BE
  clear hb hb1 BE hd h0
  unfold errA
  go_enter Tryz.func57, Tryz.ntmps57
  go_wp2_with fail
  refine (fine_any 3 _).mono ?_
  rintro e w2 ⟨rfl, hb2⟩
  have hb12 : Below w.heap.size w w2 := HB1.out.trans (hb2.mono HB1.out.size)
  have hx2 := HBX.out.below hb12 HBX.out.lt
  have HPD := Lib.hid (pdies_any gx g v c1 c2 c3 c4 c5 c6 b d rd w2 hx2 (HD.out.below hb12) HL.out)
  unfold errA at HPD
  have HB12 := Lib.hid hb12
  clear z0 z1 z2
  obtain ⟨z0, z1, z2, _, _, _⟩ := facts3 (HBE.out.below hb2 HBE.out.lt)
  clear hb2 hb12 hx2
  go_wp2_with fail
  refine HPD.out.mono ?_
  rintro e w' ⟨rfl, w3, hb3, rfl⟩
  have HB3 : Hid (Below w.heap.size w w3) := HB12.out.trans (hb3.mono HB12.out.size)
  clear hb3
  go_wp2_with fail
  go_ret
  exact ⟨rfl, w3, HB3.out, rfl⟩
end Go.Proofs.YtljmklohgpaopaaGreatDoor

namespace Go.Proofs.YtljmklohgpaopaaGreatDoor
open Go.RowKit
set_option linter.unusedSectionVars false
variable [Inhabited LoT]

theorem PTree.only {F : Nat → Prop} {ts : List TypeId} {k gT g n : Nat} {vD : Value} {d : Pl.Dk} {rd : Int} {tb : Bool} {now safe next : List Pl.Pr} {sv : Bool} {w w' : World} (hp : PTree k gT g n vD d rd tb now safe next sv w) (ho : Only F w w') (hF : Kinds F w ts)
    (h1 : 158 ∉ ts) (h2 : 168 ∉ ts) (h3 : ∀ t ∈ pageTypes, t ∉ ts) (h4 : 102 ∉ ts) (h5 : 104 ∉ ts) : PTree k gT g n vD d rd tb now safe next sv w' := by
  refine ⟨hp.disk.only_ ho hF h4 h5, hp.fins, hp.len, hp.low, fun e => ?_, fun e => ?_⟩
  · obtain ⟨seq, p, r, r0, fr, hs, h, s, ts', t, G, g1, g2, g3, g4, g5, g6, g7, g8⟩ := hp.good e
    exact ⟨seq, p, r, r0, fr, hs, h, s, ts', t, G, g1.only ho hF h1 h2 h3 h4 h5, g2, g3, g4, g5.only ho hF h2 h3, g6, g7.refs (Ext.refl G) (fun r a v hr => ⟨v, ho.blk_ hF hr h2, .inl rfl⟩) r, g8⟩
  · obtain ⟨⟨m, g1, g2⟩, g3⟩ := hp.dead e
    exact ⟨⟨m, ho.blk_ hF g1 h1, g2⟩, g3⟩
/-- same, of the harness's tree. -/
theorem pt_same {k gT g n : Nat} {vD : Value} {d : Pl.Dk} {rd : Int} {now safe next : List Pl.Pr} {sv : Bool} {w : World} (hp : PTree k gT g n vD d rd false now safe next sv w) (hl : d.life ≠ 0) (hn : 16 ≤ n ∧ n ≤ 4096) (hnl : now.length ≤ 4500) (l : List Pl.Pr) (lv : Value) (hk : KpAt w lv l) (hll : l.length ≤ 4500) (hev : EvAt w) (hge : GE w) :
    Calls Tryz.prog 65 #[.pointer (some ⟨gT, 0, none⟩), lv] w fun e w' => ∃ (b : Bool) (rd' : Int), e = .returned (.bool b) ∧ (b = true ↔ now = l) ∧ PTree k gT g n vD d rd' false now safe next sv w' ∧ HFr w w' := by
  obtain ⟨seq, p, r, r0, fr, hs, h, s, ts, t, G, h1, h2, h3, rfl, h5, h6, h7, h8, h9, h10, h11, h12, h13⟩ := hp.good rfl
  have hb1 := PGood.bounds h3 (by show (Pl.prs h t).length ≤ 5000; omega)
  dsimp only at hb1
  refine (same_any ((opEnv gT g 0 n vD d seq p r0 hs s).to r) l lv hn.2 hl rfl h t w rd G h1 h2 h3 (by omega) hev hge (by omega) hk (by omega)).mono ?_
  rintro e w' ⟨b, rfl, hb, G', rd', k1, k2, k3⟩
  refine ⟨b, rd', rfl, hb, ⟨k1.disk, hp.fins, hp.len, hp.low, fun _ => ?_, fun e => by cases e⟩, .of_sfr k3.1 k3.2.2 (by decide) (by decide)⟩
  exact ⟨seq, p, r, r0, fr, hs, h, s, ts, t, G', k1, k2 _ _ h2, h3, rfl, FrN.u (fun v pg hp => k3.1.pg hp (by decide)) k3.2.1 h t _ _ h5, h6, h7.refs k2 k3.2.1 r, k2 _ _ h8, h9, h10, h11, h12, h13⟩
/-- OpenTree, on a disk on which a tree lies. -/
theorem pt_open {q k g n : Nat} {vD : Value} {d : Pl.Dk} {rd : Int} {l : List Pl.Pr} {w : World} (hd : DiskAt w g vD d rd) (hf : Pl.Fins d.secs) (hm : ∀ j, Pl.Firm d j) (hlen : d.secs.length = n) (hlow : ∀ q, dF g vD q → LO ≤ q) (hl : d.life ≠ 0) (ho : Opn d n q l) (hq : q ≤ k + 2) (hn : 16 ≤ n ∧ n ≤ 4096) (hll : l.length ≤ 4500) (next : List Pl.Pr) (sv : Bool) (hev : EvAt w) (hge : GE w) (hlo : LO ≤ w.heap.size) :
    Calls Tryz.prog 19 #[.pointer (some ⟨g, 0, none⟩), .int .i64 0, .int .i64 (n : Nat)] w fun e w' => ∃ (gT : Nat) (rd' : Int), e = .returned (.tuple #[.pointer (some ⟨gT, 0, none⟩), errA 0 ⟨#[]⟩]) ∧ PTree k gT g n vD d rd' false l l next sv w' ∧ HFr w w' ∧ Only (· = g) w w' := by
  obtain ⟨seq, h, s, t, g1, g2, rfl, g4⟩ := ho
  refine (topenP_any g 0 n vD d rd seq _ _ w hd hl g1.slot hn.2 hn.1 (by omega) hge).mono ?_
  rintro e w' ⟨gT, r, rfl, hop⟩
  have hb1 := PGood.bounds g2 (by show (Pl.prs h t).length ≤ 5000; omega)
  dsimp only at hb1
  obtain ⟨rd', _, htw, hgr, hfr, hsv⟩ := hop.env (h := h) (s := s) (t := t) g1.on rfl rfl g2 (by omega) (by omega) hlo hlow
  have hoff := hop.2.2.2.2.2
  have hgb : Kinds (· = g) w [102] := by
    obtain ⟨_, _, hb⟩ := hd.blk
    exact one_kinds hb
  have hbd := Pl.dcount_two (fun j hj => (g1.on.all _ _ _ j hj).1) n (by omega)
  refine ⟨gT, rd', rfl, ⟨htw.disk, hf, hlen, hlow, fun _ => ?_, fun e => by cases e⟩, ⟨fun _ _ hb => hoff.blk_ hgb hb (by decide), fun _ _ hk => hk.only hoff hgb (by decide), ⟨fun he => ?_, fun hg => hoff.cell hg (hg.off hd), hoff.mono (fun x _ e => by rw [e]; exact hlow g (.inl rfl))⟩⟩, hoff⟩
  · exact ⟨seq, Pl.dcount n (Pl.secsOf h s), r, r, 0, h, h, s, t, t, _, htw, hgr, g2, rfl, hfr, by omega, hsv, hgr, g2, rfl, g1, fun j _ => hm _, by omega⟩
  · exact ⟨hoff.cell he.1 (he.off hd), hoff.cell he.2.1 (he.off hd), hoff.cell he.2.2 (he.off hd)⟩
def plCells (g gT n : Nat) (vn vs vx : Value) (sv b : Bool) : List Value := [.pointer (some ⟨g, 0, none⟩), .pointer (some ⟨gT, 0, none⟩), .int .i64 (n : Nat), vn, vs, vx, .bool sv, .bool b]
/-- The harness in memory. -/
structure PHm (gx g gT n : Nat) (vn vs vx : Value) (now safe next : List Pl.Pr) (sv b : Bool) (w : World) : Prop where
  blk : Blk w gx 78 (plCells g gT n vn vs vx sv b)
  kn : KpAt w vn now
  ks : KpAt w vs safe
  kx : KpAt w vx next
theorem PHm.hfr {gx g gT n : Nat} {vn vs vx : Value} {now safe next : List Pl.Pr} {sv b : Bool} {w w' : World} (h : PHm gx g gT n vn vs vx now safe next sv b w) (hf : HFr w w') : PHm gx g gT n vn vs vx now safe next sv b w' := ⟨hf.blk _ _ h.blk, hf.kp _ _ h.kn, hf.kp _ _ h.ks, hf.kp _ _ h.kx⟩
theorem PHm.below {gx g gT n : Nat} {vn vs vx : Value} {now safe next : List Pl.Pr} {sv b : Bool} {w w' : World} (h : PHm gx g gT n vn vs vx now safe next sv b w) (hb : Below w.heap.size w w') : PHm gx g gT n vn vs vx now safe next sv b w' := h.hfr (.of_below hb)
/-- A store into the harness. -/
theorem HFr.kp1 {gx : Nat} {cs : List Value} {w w' : World} (hb : Blk w gx 78 cs) (ho : Only (· = gx) w w') : ∀ v l, KpAt w v l → KpAt w' v l := fun _ _ hk => hk.only ho (one_kinds hb) (by decide)
end Go.Proofs.YtljmklohgpaopaaGreatDoor
