/- A tree: save's parts. A tree: save, up to what is used. -/
import Derived.Test.YtljmklohgpaopaaGreatDoorMgLean24
import Derived.Carry
set_option linter.unusedVariables false
set_option linter.unusedSimpArgs false

namespace Go.Proofs.YtljmklohgpaopaaGreatDoor
open Go.RowKit Go.Maps Go.WideMaps
set_option linter.unusedSectionVars false
variable [Inhabited LoT]

theorem UsedAt.len {w : World} {b k : Nat} {js : List Nat} (h : UsedAt w b k js) (n : Nat) (hn : ∀ j ∈ js, j < n) (ty : TypeId) : (Builtin.len_ #[234] ty #[.map (some b)]).run Tryz.prog w = .ok (.int .i64 ((Pl.dcount n js : Nat) : Int)) w := by
  obtain ⟨D, hown, _, h4, _⟩ := h
  rw [← h4 n hn]
  exact hown.len Tryz.underlying234 ty
/-- The text of a slot. -/
def slotT (seq at_ pages : Nat) : List UInt8 := 84 :: (Pl.be 8 seq ++ Pl.be 4 at_ ++ Pl.be 4 pages)
/-- So many sectors does a tree take. -/
theorem Pl.secs_len {D : Nat → Option (List UInt8)} {n : Nat} : (h : Nat) → (s : Pl.ST h) → (t : Pl.Tr h) → Pl.OnD D n h s t → (Pl.secsOf h s).length = Pl.pgs h t
  | 0, _, _, _ => rfl
  | h + 1, s, t, hD => by
    obtain ⟨a, xs⟩ := s
    obtain ⟨ks, cs⟩ := t
    obtain ⟨-, -, -, hl, hk⟩ := hD
    dsimp only at hl hk
    show (a :: xs.flatMap (Pl.secsOf h)).length = 1 + (cs.map (Pl.pgs h)).sum
    rw [List.length_cons, Nat.add_comm]
    congr 1
    clear ks a
    induction xs generalizing cs with
    | nil => cases cs with
      | nil => rfl
      | cons c cs => simp at hl
    | cons x xs ih =>
      cases cs with
      | nil => simp at hl
      | cons c cs =>
        rw [List.flatMap_cons, List.length_append, List.map_cons, List.sum_cons, Pl.secs_len h x c (hk 0 x c rfl rfl)]
        rw [ih cs (by simpa using hl) (fun i a c' ha hc => hk (i + 1) a c' (by simpa using ha) (by simpa using hc))]
/-- Refs that were led to pages still count as many that are not written. -/
theorem FrN.u {w w' : World} (hp : ∀ v pg, PgAt w v pg → PgAt w' v pg) (hr : URefs w w') : ∀ (h : Nat) (t : Pl.Tr h) (r f : Nat), FrN w h t r f → FrN w' h t r f
  | 0, t, r, f, ⟨a, v, h1, h2⟩ => by obtain ⟨v', h3, _⟩ := hr r a v h1; exact ⟨a, v', h3, h2⟩
  | h + 1, t, r, f, ⟨a, v, h1, h2⟩ => by
    obtain ⟨v', h3, h4⟩ := hr r a v h1
    refine ⟨a, v', h3, ?_⟩
    rcases h2 with h2 | ⟨h2, rs, F, h5, h6, h7, h8⟩
    · exact .inl h2
    · have hv : v' = v := by
        rcases h4 with h4 | h4
        · exact h4
        · subst h4
          obtain ⟨b, e, _⟩ := h5
          cases e
      subst hv
      exact .inr ⟨h2, rs, F, hp _ _ h5, h6, h7, fun j x c hx hc => FrN.u hp hr h c x (F j) (h8 j x c hx hc)⟩
theorem Inv.disk {w : World} {G : Gh} {D D' : Nat → Option (List UInt8)} {n : Nat} {S : List Nat} (hi : Inv w G D n S) (hD : ∀ j, 2 ≤ j → D' j = D j) : Inv w G D' n S := fun r h t hG => by
  rcases hi r h t hG with h1 | ⟨s, v, h1, h2, h3, h4⟩
  · exact .inl h1
  · exact .inr ⟨s, v, h1, h2.congr _ _ _ (fun j hj => hD j (h2.all _ _ _ j hj).1), h3, h4⟩
theorem look_sync (d : Pl.Dk) (j : Nat) : (d.change .sy).look j = d.look j := by
  unfold Pl.Dk.change
  split
  · exact Pl.look_sy d.secs (d.tick).life j
  · rfl
theorem look_off (d : Pl.Dk) (i j : Nat) (t : List UInt8) (hij : i ≠ j) : (d.change (.wr i t)).look j = d.look j := by
  unfold Pl.Dk.change
  split
  · show Pl.Dk.look ⟨Pl.Ch.on (.wr i t) d.secs, _⟩ j = _
    unfold Pl.Dk.look
    simp only [Pl.Ch.on, List.getElem?_modify, if_neg hij]
    cases d.secs[j]? <;> rfl
  · rfl
theorem live_change {d : Pl.Dk} (h : d.alive = true) (c : Pl.Ch) : (d.change c).life ≠ 0 := by
  unfold Pl.Dk.change
  rw [if_pos h]
  show (d.tick).life ≠ 0
  have := of_decide_eq_true h
  unfold Pl.Dk.tick
  dsimp only
  split <;> omega
theorem slotT_len (seq at_ pages : Nat) : (slotT seq at_ pages).length = 17 := by simp [slotT, Pl.be_length]
end Go.Proofs.YtljmklohgpaopaaGreatDoor

namespace Go.Proofs.YtljmklohgpaopaaGreatDoor
open Go.RowKit Go.Maps Go.WideMaps
set_option linter.unusedSectionVars false
variable [Inhabited LoT]

/-- What was saved last: its sectors. -/
def SavedAt (E : TEnv) (w : World) (G : Gh) (js : List Nat) : Prop :=
  (E.m.saved = none ∧ js = [] ∧ E.m.pages = 0) ∨ ∃ rs hs ts ss v, E.m.saved = some rs ∧ G rs = some ⟨hs, ts⟩ ∧ Pl.RootOk ⟨hs, ts⟩ ∧ hs ≤ 62 ∧ RefAt w rs (Pl.top hs ss) v ∧ Pl.OnD E.D E.m.n hs ss ts ∧ js = Pl.secsOf hs ss ∧ E.m.pages = Pl.dcount E.m.n js
structure SvIn (E : TEnv) (w : World) (rd : Int) (G : Gh) (h : Nat) (t : Pl.Tr h) (fr : Nat) (js : List Nat) : Prop where
  tw : TW E w rd G
  root : G E.m.root = some ⟨h, t⟩
  ok : Pl.RootOk ⟨h, t⟩
  hh : h ≤ 62
  fresh : FrN w h t E.m.root fr
  fit : fr + E.m.pages + 2 ≤ E.m.n
  n : E.m.n ≤ 4096
  saved : SavedAt E w G js
  ev : EvAt w
  S : ∀ j ∈ E.S, j ∈ js
  len : js.length ≤ 20000
  seq : E.m.seq + 1 < 18446744073709551616
  pg : Pl.pgs h t ≤ 20000
theorem SvIn.low {E : TEnv} {w : World} {rd : Int} {G : Gh} {h : Nat} {t : Pl.Tr h} {fr : Nat} {js : List Nat} (s : SvIn E w rd G h t fr js) : (∀ j ∈ js, 2 ≤ j ∧ j < E.m.n) ∧ E.m.pages = Pl.dcount E.m.n js := by
  rcases s.saved with ⟨_, rfl, h2⟩ | ⟨rs, hs, ts, ss, v, _, _, _, _, _, h6, rfl, h8⟩
  · refine ⟨fun j hj => absurd hj (List.not_mem_nil), ?_⟩
    rw [h2]
    simp [Pl.dcount]
  · exact ⟨fun j hj => ⟨(Pl.OnD.all hs ss ts h6 j hj).1, (Pl.OnD.all hs ss ts h6 j hj).2.1⟩, h8⟩
theorem SvIn.room {E : TEnv} {w : World} {rd : Int} {G : Gh} {h : Nat} {t : Pl.Tr h} {fr : Nat} {js : List Nat} (s : SvIn E w rd G h t fr js) : fr ≤ Pl.freeN 2 E.m.n js := by
  have h1 := Pl.free_used (fun j hj => (s.low.1 j hj).1) E.m.n
  have h2 := s.low.2
  have h3 := s.fit
  omega
def saveT2 : List TypeId := saveT ++ [158]
/-- Syncs, and writes into sectors that are free. -/
def FreeW (first : Nat) (js : List Nat) (l : List Pl.Ch) : Prop := ∀ c ∈ l, c = .sy ∨ ∃ j x, c = .wr (first + j) x ∧ 2 ≤ j ∧ j ∉ js
theorem FreeW.of_wrote {first : Nat} {js : List Nat} {l : List Pl.Ch} (h : ∀ c ∈ l, ∃ j x, c = .wr (first + j) x ∧ 2 ≤ j ∧ j ∉ js) : FreeW first js l := fun c hc => .inr (h c hc)
theorem FreeW.sy {first : Nat} {js : List Nat} {l : List Pl.Ch} (h : FreeW first js l) : FreeW first js (l ++ [.sy]) := fun c hc => (List.mem_append.1 hc).elim (h c) (fun h => .inl (List.mem_singleton.1 h))
theorem run_snoc {d d' : Pl.Dk} {l : List Pl.Ch} (h : d.run l = (d', true)) (c : Pl.Ch) : d.run (l ++ [c]) = (d'.change c, d'.alive) := by
  rw [Pl.Dk.run_append, h]
  show d'.run [c] = _
  rw [Pl.Dk.run_cons]
  cases d'.alive <;> simp [Pl.Dk.run_nil]
def Tm.sv (m : Tm) (p : Nat) : Tm := { m with saved := some m.root, seq := m.seq + 1, pages := p }
def TEnv.sv (E : TEnv) (d : Pl.Dk) (S : List Nat) (p : Nat) : TEnv := ⟨E.gT, E.m.sv p, E.vD, d, S⟩
/-- How save ends. -/
def SvPost (E : TEnv) (rd : Int) (G : Gh) (h : Nat) (t : Pl.Tr h) (js : List Nat) (w : World) (e : Ending) (w' : World) : Prop :=
  SFr saveT2 w w' ∧ Gk w w' ∧
  ((e = tdied 3 ∧ TmAt w' E.gT E.m ∧ ∃ l d' rd', FreeW E.m.first js l ∧ (E.d.life = 0 ∧ d' = E.d ∨ E.d.run l = (d', false)) ∧ DiskAt w' E.m.g E.vD d' rd') ∨
   ∃ l d1 d2 ok s rd', FreeW E.m.first js l ∧ E.d.run (l ++ [.sy]) = (d1, true) ∧ Pl.OnD (fun j => d1.look (E.m.first + j)) E.m.n h s t ∧
     d1.run [.wr (E.m.first + (E.m.seq + 1) % 2) (slotT (E.m.seq + 1) (Pl.top h s) (Pl.dcount E.m.n (Pl.secsOf h s))), .sy] = (d2, ok) ∧ TEnds ok 3 e ∧ DiskAt w' E.m.g E.vD d2 rd' ∧ (ok = false → TmAt w' E.gT E.m) ∧
     (ok = true → ∃ S' G' v, TW (E.sv d2 S' (Pl.dcount E.m.n (Pl.secsOf h s))) w' rd' G' ∧ Ext G G' ∧ RdK 100000 rd rd' ∧ RefAt w' E.m.root (Pl.top h s) v ∧ ∀ j ∈ Pl.secsOf h s, j ∈ S'))
theorem TW.dk {E : TEnv} {d d2 : Pl.Dk} {S : List Nat} {rd : Int} {G : Gh} {w w' : World} (hw : TW (E.at_ d S) w rd G) (hd : DiskAt w' E.m.g E.vD d2 rd) (ho : Only (dF E.m.g E.vD) w w') (hl : ∀ j, 2 ≤ j → d2.look (E.m.first + j) = d.look (E.m.first + j)) (hs : d2.secs.length = d.secs.length) : TW (E.at_ d2 S) w' rd G := by
  have hk := hw.disk.kinds
  have hro : E.m.first + E.m.n ≤ d.secs.length := hw.room
  exact ⟨ho.blk_ hk hw.tree (by decide), hd, (hw.inv.only ho hk (by decide) (by decide)).disk hl, by show E.m.first + E.m.n ≤ d2.secs.length; rw [hs]; exact hro, ⟨hw.low.g, hw.low.d, hw.low.t⟩⟩
theorem TW.saved {E : TEnv} {d : Pl.Dk} {S : List Nat} {rd : Int} {G : Gh} {w w' : World} {p : Nat} (hw : TW (E.at_ d S) w rd G) (ho : Only (· = E.gT) w w') (ht : TmAt w' E.gT (E.m.sv p)) : TW (E.sv d S p) w' rd G := by
  have hk : Kinds (· = E.gT) w [158] := one_kinds hw.tree
  exact ⟨ht, hw.disk.only_ ho hk (by decide) (by decide), hw.inv.only ho hk (by decide) (by decide), hw.room, ⟨hw.low.g, hw.low.d, hw.low.t⟩⟩
end Go.Proofs.YtljmklohgpaopaaGreatDoor
