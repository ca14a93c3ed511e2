/- A tree: pages are written. A tree: a leaf is written. -/
import Derived.Test.YtljmklohgpaopaaGreatDoorMgLean22
import Derived.Test.YtljmklohgpaopaaGreatDoorMgLean5
set_option linter.unusedVariables false
set_option linter.unusedSimpArgs false

namespace Go.Proofs.YtljmklohgpaopaaGreatDoor
open Go.RowKit Go.Maps Go.WideMaps
set_option linter.unusedSectionVars false
variable [Inhabited LoT]

/-- The variables stay. -/
def Gk (w w' : World) : Prop := (EvAt w → EvAt w') ∧ (GE w → GE w') ∧ Only (fun k => LO ≤ k) w w'
theorem Gk.trans {a b c : World} (h : Gk a b) (k : Gk b c) : Gk a c := ⟨fun x => k.1 (h.1 x), fun x => k.2.1 (h.2.1 x), h.2.2.trans' k.2.2⟩
theorem Gk.refl (w : World) : Gk w w := ⟨id, id, Only.refl _ _⟩
theorem Gk.of_ev {w w' : World} (h : ∀ (p : Addr) (s : Value), plainV s = true → w.cell? p = some s → w'.cell? p = some s) (hl : Only (fun k => LO ≤ k) w w') : Gk w w' :=
  ⟨fun x => ⟨h _ _ rfl x.1, h _ _ rfl x.2.1, h _ _ rfl x.2.2⟩, fun x => h _ _ rfl x, hl⟩
theorem UFr.gk {w w' : World} (h : UFr w w') : Gk w w' := Gk.of_ev h.2.2.1 h.2.2.2
theorem Gk.of_below {w w' : World} (h : Below w.heap.size w w') : Gk w w' := (UFr.of_below h).gk
/-- No variable lies in a block that begins so. -/
theorem Gk.ofF {F : Nat → Prop} {w w' : World} (hF : ∀ k, F k → LO ≤ k ∧ ∃ t c cs, Blk w k t (c :: cs) ∧ plainV c = false) (ho : Only F w w') : Gk w w' := by
  have key : ∀ k s, w.cell? ⟨k, 0, none⟩ = some s → plainV s = true → ¬ F k := fun k s h1 h2 hf => by
    obtain ⟨_, t, c, cs, hb, hc⟩ := hF k hf
    have h0 : w.cell? ⟨k, 0, none⟩ = some c := hb.cell 0
    rw [h0] at h1
    injection h1 with h1
    subst h1
    rw [hc] at h2
    cases h2
  refine ⟨fun x => ?_, fun x => ho.cell x (key _ _ x rfl), ho.mono (fun x _ hx => (hF x hx).1)⟩
  have nf := key _ _ x.1 rfl
  exact ⟨ho.cell x.1 nf, ho.cell x.2.1 nf, ho.cell x.2.2 nf⟩
theorem Gk.of1 {w w' : World} {k : Nat} {t : TypeId} {c : Value} {cs : List Value} (hb : Blk w k t (c :: cs)) (hc : plainV c = false) (hlo : LO ≤ k) (ho : Only (· = k) w w') : Gk w w' :=
  Gk.ofF (fun x hx => by subst hx; exact ⟨hlo, t, c, cs, hb, hc⟩) ho
theorem Gk.of_disk {w w' : World} {g : Nat} {v : Value} {d : Pl.Dk} {rd : Int} (hd : DiskAt w g v d rd) (h0 : 0 < d.secs.length) (hlo : ∀ k, dF g v k → LO ≤ k) (ho : Only (dF g v) w w') : Gk w w' := by
  obtain ⟨wr, sy, hgb⟩ := hd.blk
  obtain ⟨A, cap, hv, _⟩ := own_src hd.own
  have hg0 : w.cell? ⟨g, 0, none⟩ = some v := hgb.cell 0
  have hv0 : plainV v = false := by rw [hv]; rfl
  obtain ⟨s, hs⟩ : ∃ s, d.secs[0]? = some s := ⟨_, List.getElem?_eq_getElem h0⟩
  obtain ⟨b, cp, e1, _, hc, _⟩ := hd.sec hs
  rw [Nat.zero_mul] at hc
  have key : ∀ k s, w.cell? ⟨k, 0, none⟩ = some s → plainV s = true → k ≠ g := fun k s h1 h2 hf => by
    subst hf
    rw [hg0] at h1
    injection h1 with h1
    subst h1
    rw [hv0] at h2
    cases h2
  refine ⟨fun x => ?_, fun x => ?_, ho.mono (fun x _ hx => hlo x hx)⟩
  · have nf : ¬ dF g v 0 := by
      rintro (e | e)
      · exact key _ _ x.1 rfl e
      · exact x.far hd h0 e
    exact ⟨ho.cell x.1 nf, ho.cell x.2.1 nf, ho.cell x.2.2 nf⟩
  · refine ho.cell x ?_
    rintro (e | e)
    · exact key _ _ x rfl e
    · rw [e1] at e
      have e2 : b = 1 := Option.some.inj e
      subst e2
      have h2 := Eq.trans (Eq.symm x) hc
      cases h2
/-- What the next free sector is told from. -/
structure FAt (w : World) (gu gx gt gT b : Nat) (js : List Nat) (nx : Nat) : Prop where
  u : Blk w gu 234 [.map (some b)]
  x : Blk w gx 3 [.int .i64 (nx : Nat)]
  t : Blk w gt 45 [.pointer (some ⟨gT, 0, none⟩)]
  m : UsedAt w b js.length js
  low : LO ≤ gx
/-- So a disk was written, at sectors that P holds of. -/
def Wrote (first : Nat) (P : Nat → Prop) (d d' : Pl.Dk) (ok : Bool) : Prop := ∃ l : List Pl.Ch, (∀ c ∈ l, ∃ j x, c = .wr (first + j) x ∧ P j) ∧ d.run l = (d', ok)
theorem Wrote.refl (first : Nat) (P : Nat → Prop) (d : Pl.Dk) : Wrote first P d d true := ⟨[], by simp, rfl⟩
theorem Wrote.mono {first : Nat} {P Q : Nat → Prop} {d d' : Pl.Dk} {ok : Bool} (h : Wrote first P d d' ok) (hq : ∀ j, P j → Q j) : Wrote first Q d d' ok := by
  obtain ⟨l, h1, h2⟩ := h
  exact ⟨l, fun c hc => by obtain ⟨j, x, e, hp⟩ := h1 c hc; exact ⟨j, x, e, hq j hp⟩, h2⟩
theorem Wrote.trans {first : Nat} {P : Nat → Prop} {a b c : Pl.Dk} {ok : Bool} (h : Wrote first P a b true) (k : Wrote first P b c ok) : Wrote first P a c ok := by
  obtain ⟨l, h1, h2⟩ := h
  obtain ⟨m, k1, k2⟩ := k
  exact ⟨l ++ m, fun x hx => (List.mem_append.1 hx).elim (h1 x) (k1 x), by rw [Pl.Dk.run_append, h2]; exact k2⟩
theorem Wrote.one {first : Nat} {P : Nat → Prop} (d : Pl.Dk) (j : Nat) (x : List UInt8) (hp : P j) : Wrote first P d (d.change (.wr (first + j) x)) d.alive :=
  ⟨[.wr (first + j) x], fun c hc => by obtain rfl := List.mem_singleton.1 hc; exact ⟨j, x, rfl, hp⟩, by rw [Pl.Dk.run_cons]; cases h : d.alive <;> simp [Pl.Dk.run_nil]⟩
def TEnv.at_ (E : TEnv) (d : Pl.Dk) (S : List Nat) : TEnv := ⟨E.gT, E.m, E.vD, d, S⟩
/-- Refs of higher pages stay. -/
def KeptUp (G : Gh) (h : Nat) (w w' : World) : Prop := ∀ k x a v, G k = some x → h < x.1 → RefAt w k a v → RefAt w' k a v
def SPost (h : Nat) (E : TEnv) (gu gx gt b : Nat) (js : List Nat) (rd : Int) (G : Gh) (d : Pl.Dk) (S : List Nat) (nx f r : Nat) (w : World) (e : Ending) (w' : World) : Prop :=
  (∃ d' S' nx', e = .returned (.tuple #[]) ∧ TW (E.at_ d' S') w' rd G ∧ FAt w' gu gx gt E.gT b js nx' ∧ nx ≤ nx' ∧ Pl.freeN nx E.m.n js ≤ Pl.freeN nx' E.m.n js + f ∧ SFr saveT w w' ∧ SRefs w w' ∧ KeptUp G h w w' ∧ Gk w w' ∧ (∃ a v, RefAt w' r a v ∧ a ≠ 0) ∧ Wrote E.m.first (fun j => 2 ≤ j ∧ j ∉ js) d d' true ∧ (∀ j ∈ S, j ∈ S') ∧ ∀ j ∈ S', j ∈ js ∨ j < nx')
  ∨ (e = tdied 3 ∧ (∃ d', Wrote E.m.first (fun j => 2 ≤ j ∧ j ∉ js) d d' false ∧ DiskAt w' E.m.g E.vD d' rd) ∧ SFr saveT w w' ∧ Gk w w')
def StOk (E : TEnv) (gu gx gt b : Nat) (js : List Nat) (h : Nat) : Prop :=
  ∀ (t : Pl.Tr h) (r f nx : Nat) (w : World) (rd : Int) (G : Gh) (d : Pl.Dk) (S : List Nat), TW (E.at_ d S) w rd G → G r = some ⟨h, t⟩ → Pl.RFit h t → FrN w h t r f → FAt w gu gx gt E.gT b js nx → f ≤ Pl.freeN nx E.m.n js → 2 ≤ nx → (∀ j ∈ S, j ∈ js ∨ j < nx) →
    Calls Tryz.prog 128 #[.pointer (some ⟨E.gT, 0, none⟩), refV r, .func (.func 129) #[] #[.pointer (some ⟨gu, 0, none⟩), .pointer (some ⟨gx, 0, none⟩), .pointer (some ⟨gt, 0, none⟩)]] w (SPost h E gu gx gt b js rd G d S nx f r w)
theorem FrN.at_ {w : World} {h : Nat} {t : Pl.Tr h} {r f : Nat} (hf : FrN w h t r f) : ∃ a v, RefAt w r a v ∧ (a ≠ 0 → f = 0) := by
  cases h with
  | zero => obtain ⟨a, v, h1, h2⟩ := hf; exact ⟨a, v, h1, fun h0 => h2.elim (fun h => h.2) (fun h => absurd h.1 h0)⟩
  | succ h => obtain ⟨a, v, h1, h2⟩ := hf; exact ⟨a, v, h1, fun h0 => h2.elim (fun h => h.2) (fun h => absurd h.1 h0)⟩
set_option maxRecDepth 100000 in
set_option maxHeartbeats 4000000 in
theorem settle_off (E : TEnv) (gu gx gt b : Nat) (js : List Nat) (h : Nat) (t : Pl.Tr h) (r f nx a : Nat) (v : Value) (w : World) (rd : Int) (G : Gh) (d : Pl.Dk) (S : List Nat) (hw : TW (E.at_ d S) w rd G) (hr : RefAt w r a v) (ha : a ≠ 0) (hal : a ≤ 4294967296 + E.m.n) (hn : E.m.n ≤ 4096) (hfa : FAt w gu gx gt E.gT b js nx) (hS : ∀ j ∈ S, j ∈ js ∨ j < nx) :
    Calls Tryz.prog 128 #[.pointer (some ⟨E.gT, 0, none⟩), refV r, .func (.func 129) #[] #[.pointer (some ⟨gu, 0, none⟩), .pointer (some ⟨gx, 0, none⟩), .pointer (some ⟨gt, 0, none⟩)]] w (SPost h E gu gx gt b js rd G d S nx f r w) := by
  obtain ⟨c0, c1, _, _⟩ := facts2 hr
  have q0 : ((a : Int) != 0) = true := by simp; omega
  have H := Lib.hid (show SPost h E gu gx gt b js rd G d S nx f r w (.returned (.tuple #[])) w from .inl ⟨d, S, nx, rfl, hw, hfa, Nat.le_refl _, Nat.le_add_right _ _, SFr.refl _ _, SRefs.refl _, fun _ _ _ _ _ _ h => h, Gk.refl _, ⟨a, v, hr, ha⟩, Wrote.refl _ _ _, fun j hj => hj, hS⟩)
  unfold refV
  clear hw hr hfa hS
  go_enter Tryz.func128, Tryz.ntmps128
  go_wp2_with fail
  go_end0
  exact H.out
theorem tchange_look {d : Pl.Dk} {i j : Nat} {t : List UInt8} (hal : d.alive = true) (hi : i < d.secs.length) : (d.change (.wr i t)).look j = if i = j then some (t ++ Pl.zeros (256 - t.length)) else d.look j := by
  unfold Pl.Dk.change
  rw [if_pos hal]
  exact Pl.look_wr d.secs (d.tick).life i j t hi
theorem tchange_length (d : Pl.Dk) (c : Pl.Ch) : (d.change c).secs.length = d.secs.length := by
  unfold Pl.Dk.change
  split
  · show (c.on d.secs).length = _
    cases c <;> simp [Pl.Ch.on]
  · rfl
/-- Behind the write: the page has its place. -/
theorem settled (E : TEnv) (gu gx gt b : Nat) (js : List Nat) (h : Nat) (t : Pl.Tr h) (s : Pl.ST h) (r nx y : Nat) (v : Value) (txt : List UInt8) (w w1 w3 w4 : World) (rd : Int) (G : Gh) (d : Pl.Dk) (S : List Nat) (hw : TW (E.at_ d S) w rd G) (hr : RefAt w r 0 v) (hG : G r = some ⟨h, t⟩) (hp : PgOk w G v h t (some s))
    (hfa : FAt w gu gx gt E.gT b js nx) (hnx : nx ≤ y) (h2 : 2 ≤ nx) (hy : y < E.m.n) (hyj : y ∉ js) (hS : ∀ j ∈ S, j ∈ js ∨ j < nx) (hal : d.alive = true) (hO : Pl.OnD (fun j => (d.change (.wr (E.m.first + y) txt)).look (E.m.first + j)) E.m.n h s t) (hst : Pl.top h s = y) (hss : ∀ j ∈ Pl.secsOf h s, j = y ∨ j ∈ S)
    (ho1 : Only (· = gx) w w1) (hx1 : Blk w1 gx 3 [.int .i64 ((y + 1 : Nat) : Int)]) (hb3 : Below (w1.setCell ⟨r, 0, none⟩ (.int .i64 (y : Nat))).heap.size (w1.setCell ⟨r, 0, none⟩ (.int .i64 (y : Nat))) w3) (hd4 : DiskAt w4 E.m.g E.vD (d.change (.wr (E.m.first + y) txt)) rd) (ho4 : Only (dF E.m.g E.vD) w3 w4) :
    TW (E.at_ (d.change (.wr (E.m.first + y) txt)) (S ++ [y])) w4 rd G ∧ FAt w4 gu gx gt E.gT b js (y + 1) ∧ SFr saveT w w4 ∧ SRefs w w4 ∧ KeptUp G h w w4 ∧ Gk w w4 ∧ ∃ a v, RefAt w4 r a v ∧ a ≠ 0 := by
  have hkd := hw.disk.kinds
  have hne : gx ≠ r := hfa.x.ne hr (by decide)
  have hF : Only (fun k => k = gx ∨ k = r ∨ dF E.m.g E.vD k) w w4 := by
    have h1 : Only (fun k => k = gx ∨ k = r ∨ dF E.m.g E.vD k) w (w1.setCell ⟨r, 0, none⟩ (.int .i64 (y : Nat))) := (ho1.mono (fun x _ hx => .inl hx)).setCell (p := ⟨r, 0, none⟩) (.inl (.inr (.inl rfl))) _
    have h3 : Only (fun k => k = gx ∨ k = r ∨ dF E.m.g E.vD k) w w3 := h1.trans (Only.of_below hb3 (fun _ => False)) (fun _ _ h => h.elim)
    exact h3.trans ho4 (fun _ _ h => .inr (.inr h))
  have hK : Kinds (fun k => k = gx ∨ k = r ∨ dF E.m.g E.vD k) w saveT := by
    rintro k (rfl | rfl | hk)
    · exact ⟨_, by simp [saveT], hfa.x.typ⟩
    · exact ⟨_, by simp [saveT], hr.typ⟩
    · obtain ⟨t', k1, k2⟩ := hkd k hk
      refine ⟨t', ?_, k2⟩
      simp only [List.mem_cons, List.not_mem_nil, or_false] at k1
      rcases k1 with rfl | rfl <;> simp [saveT]
  have hnd : ∀ {k : Nat} {t' : TypeId} {cs : List Value}, Blk w k t' cs → t' ∉ [102, 104] → ¬ dF E.m.g E.vD k := fun hb ht hk => by
    obtain ⟨t2, k1, k2⟩ := hkd _ hk
    exact ht (hb.typ.uniq k2 ▸ k1)
  have hr1 : RefAt w1 r 0 v := ho1.blk hr (fun e => hne e.symm)
  have hr2 : RefAt (w1.setCell ⟨r, 0, none⟩ (.int .i64 (y : Nat))) r y v := hr1.set_ 0 _
  have hr4 : RefAt w4 r y v := ho4.blk (hr2.below hb3 hr2.lt) (hnd hr (by decide))
  have hx2 := (Only.refl (· = r) w1).setCell (p := ⟨r, 0, none⟩) (.inl rfl) (.int .i64 (y : Nat)) |>.blk hx1 hne
  have hx4 : Blk w4 gx 3 [.int .i64 ((y + 1 : Nat) : Int)] := ho4.blk (hx2.below hb3 hx2.lt) (hnd hfa.x (by decide))
  have hroom0 : 0 < d.secs.length := by have : E.m.first + E.m.n ≤ d.secs.length := hw.room; omega
  have hd3 : DiskAt w3 E.m.g E.vD d rd := by
    have h1 := hw.disk.only_ ho1 (one_kinds hfa.x) (by decide) (by decide)
    have h2 := h1.only_ ((Only.refl (· = r) w1).setCell (p := ⟨r, 0, none⟩) (.inl rfl) (.int .i64 (y : Nat))) (one_kinds hr1) (by decide) (by decide)
    exact h2.below hb3
  have hevk : Gk w w4 := ((Gk.of1 hfa.x rfl hfa.low ho1).trans (Gk.of1 hr1 rfl (hw.low.g _ _ hG) ((Only.refl (· = r) w1).setCell (p := ⟨r, 0, none⟩) (.inl rfl) _))).trans ((Gk.of_below hb3).trans (Gk.of_disk hd3 hroom0 hw.low.d ho4))
  have hrest : ∀ k a u, k ≠ r → RefAt w k a u → RefAt w4 k a u := fun k a u hk hb => hF.blk hb (fun hf => by
    rcases hf with e | e | e
    · exact absurd (e ▸ hb) (fun h => (h.ne hfa.x (by decide)) rfl)
    · exact hk e
    · exact hnd hb (by decide) e)
  have hroom : E.m.first + E.m.n ≤ d.secs.length := hw.room
  have hi : Inv w4 G (TEnv.D (E.at_ (d.change (.wr (E.m.first + y) txt)) (S ++ [y]))) E.m.n (S ++ [y]) :=
    Inv.put (D := TEnv.D (E.at_ d S)) hw.inv hr hG hp (by rw [hst]; exact hr4) hrest (fun u pg hpg => hpg.sp hF hK.spare (by decide)) (fun j hj => by
      show (d.change (.wr (E.m.first + y) txt)).look (E.m.first + j) = d.look (E.m.first + j)
      have hyne : ¬ E.m.first + y = E.m.first + j := fun e => by
        have : y = j := by omega
        subst this
        rcases hS _ hj with h | h
        · exact hyj h
        · omega
      rw [tchange_look hal (by omega), if_neg hyne]) hO (fun j hj => List.mem_append_left _ hj) (fun j hj => by
      rcases hss j hj with rfl | h
      · simp
      · exact List.mem_append_left _ h)
  refine ⟨⟨hw.tree.sp hF hK.spare (by decide), hd4, hi, ?_, ⟨hw.low.g, hw.low.d, hw.low.t⟩⟩, ⟨hfa.u.sp hF hK.spare (by decide), hx4, hfa.t.sp hF hK.spare (by decide), hfa.m.only hF hK, hfa.low⟩, ⟨_, hF, hK.spare⟩, fun k a u hk => ?_, fun k x a u hk hx hb => hrest k a u (fun e => by subst e; rw [hG] at hk; injection hk with hk; subst hk; exact absurd hx (Nat.lt_irrefl _)) hb, hevk, y, v, hr4, by omega⟩
  · show E.m.first + E.m.n ≤ (d.change (.wr (E.m.first + y) txt)).secs.length
    rw [tchange_length]; exact hroom
  · by_cases e : k = r
    · subst e
      obtain ⟨e1, e2⟩ := hk.uniq hr
      subst e1 e2
      exact ⟨y, hr4, fun h => absurd rfl h⟩
    · exact ⟨a, hrest k a u e hk, fun _ => rfl⟩
end Go.Proofs.YtljmklohgpaopaaGreatDoor

namespace Go.Proofs.YtljmklohgpaopaaGreatDoor
open Go.RowKit Go.Maps Go.WideMaps
set_option linter.unusedSectionVars false
variable [Inhabited LoT]

theorem enters_free (args : Array Value) (W : World) : (callFunc 129 args).run Tryz.prog W = .ok (.enter 129 args) W := by simp [go_sem]
set_option maxRecDepth 100000 in
set_option maxHeartbeats 8000000 in
theorem settle_leaf (E : TEnv) (gu gx gt b : Nat) (js : List Nat) (hn : E.m.n ≤ 4096) (t : List Pl.Pr) (r nx bl : Nat) (w : World) (rd : Int) (G : Gh) (d : Pl.Dk) (S : List Nat) (hw : TW (E.at_ d S) w rd G) (hG : G r = some ⟨0, t⟩) (hft : Pl.RFit 0 t) (hr : RefAt w r 0 (leafV bl)) (hlf : LeafAt w bl t) (hfa : FAt w gu gx gt E.gT b js nx)
    (hroom : 1 ≤ Pl.freeN nx E.m.n js) (h2 : 2 ≤ nx) (hS : ∀ j ∈ S, j ∈ js ∨ j < nx) (hlen : (Pl.leafText t).length ≤ 256) :
    Calls Tryz.prog 128 #[.pointer (some ⟨E.gT, 0, none⟩), refV r, .func (.func 129) #[] #[.pointer (some ⟨gu, 0, none⟩), .pointer (some ⟨gx, 0, none⟩), .pointer (some ⟨gt, 0, none⟩)]] w (SPost 0 E gu gx gt b js rd G d S nx 1 r w) := by
  obtain ⟨y, hy1, hy2, hy3, hy4, hy5⟩ := Pl.freeN_next E.m.n js _ nx rfl hroom
  have hfree := free_any gu gx gt E.gT b js.length E.m js nx y w hfa.u hfa.x hfa.t hw.tree hfa.m hy1 hy2 hn hy3 hy4
  have HFREE := Lib.hid hfree
  have HEN := enters_free
  obtain ⟨c0, c1, f0, f1⟩ := facts2 hr
  unfold leafV at c1
  have hne : gx ≠ r := hfa.x.ne hr (by decide)
  have M1 := Tryz.methodLeafText
  have hm1 : ∀ (b : Nat) (W : World), (Instr.typeAssert (.iface 161 (.pointer (some ⟨b, 0, none⟩))) 166 180 true).run Tryz.prog W = .ok (.tuple #[.pointer none, .bool false]) W := fun b W => by kernel_rfl
  have HR := Lib.hid hr
  have HNE := Lib.hid hne
  unfold refV
  go_enter Tryz.func128, Tryz.ntmps128
  go_wp2_with fail
  refine HFREE.out.mono ?_
  rintro e w1 ⟨rfl, ho1, hx1⟩
  have hr1 : RefAt w1 r 0 (leafV bl) := ho1.blk HR.out (fun e => HNE.out e.symm)
  obtain ⟨d0, d1, g0, g1⟩ := facts2 hr1
  unfold leafV at d1
  obtain ⟨w2, hw2⟩ : ∃ x, w1.setCell ⟨r, 0, none⟩ (.int .i64 (y : Nat)) = x := ⟨_, rfl⟩
  have ho2 : Only (· = r) w1 w2 := by rw [← hw2]; exact (Only.refl (· = r) w1).setCell (p := ⟨r, 0, none⟩) (.inl rfl) _
  have hr2 : RefAt w2 r y (leafV bl) := by rw [← hw2]; exact hr1.set_ 0 _
  have hk1 := one_kinds hfa.x
  have hk2 := one_kinds hr1
  have hlf2 : LeafAt w2 bl t := (hlf.only ho1 hk1 (by decide) (by decide)).only ho2 hk2 (by decide) (by decide)
  have hT2 : TmAt w2 E.gT E.m := (ho1.blk_ hk1 hw.tree (by decide) |> fun h => ho2.blk_ hk2 h (by decide))
  have hd2 : DiskAt w2 E.m.g E.vD d rd := (hw.disk.only_ ho1 hk1 (by decide) (by decide)).only_ ho2 hk2 (by decide) (by decide)
  have hgk2 : Gk w w2 := (Gk.of1 hfa.x rfl hfa.low ho1).trans (Gk.of1 hr1 rfl (hw.low.g _ _ hG) ho2)
  have hfr2 : SFr saveT w w2 := SFr.trans ⟨_, ho1, hk1.spare.mono (by simp [saveT])⟩ ⟨_, ho2, hk2.spare.mono (by simp [saveT])⟩
  obtain ⟨x0, x1, _, _⟩ := facts2 hr2
  unfold leafV at x1
  have D0 := Lib.hid (And.intro x0 x1)
  have HR2 := Lib.hid hr2
  have HT2 := Lib.hid hT2
  have HD2 := Lib.hid hd2
  have HFR2 := Lib.hid hfr2
  have HGK2 := Lib.hid hgk2
  have HX1 := Lib.hid hx1
  have HO1 := Lib.hid ho1
  have HTXT := Lib.hid (fun W hW => ltext_any bl t W (hlf2.below hW) (by have := hft.1; omega) (fun p hp => by have := hft.2 p hp; exact ⟨by have := this.1.2; omega, by have := this.2; omega⟩))
  have HY : Hid (2 ≤ y) := Nat.le_trans h2 hy1
  have HW := Lib.hid hw
  have HG := Lib.hid hG
  have HLF := Lib.hid hlf
  have HFA := Lib.hid hfa
  have HS := Lib.hid hS
  have HLEN := Lib.hid hlen
  have HW2 := Lib.hid hw2
  clear hr1 d1 g1 ho1 hx1 ho2 hr2 hk1 hk2 hlf2 hT2 hd2 hfr2 hgk2 x0 x1 hw hG hft hr hlf hfa hS hlen hfree c0 c1 f0 f1 HFREE
  go_wp2_with fail
  clear d0 g0
  refine wp_region_L 10 (fun _ => True) (fun W => W.cell? ⟨r, 0, none⟩ = some (.int .i64 (y : Nat)) ∧ W.cell? ⟨r, 1, none⟩ = some (.iface 161 (.pointer (some ⟨bl, 0, none⟩)))) (by kernel_rfl) trivial D0.out (fun hTill => ?_)
  refine wpL_take' (i := 0) (oi := _) (v := ?_) rfl (by kernel_rfl) (by kernel_rfl) (by kernel_rfl) (by kernel_rfl) (fun _ _ _ h => h) (.inl ⟨by rfl, ?_⟩) (by assumption) ?_
  rotate_left
  · intro W hSw
    (try dsimp only at hSw)
    go_simp
    (try rfl)
  (try simp only [Act.put, List.getElem_toArray, List.getElem_cons_succ, List.getElem_cons_zero, List.setIfInBounds_toArray, List.set_cons_zero, List.set_cons_succ])
  refine wpL_take' (i := 1) (oi := _) (v := ?_) rfl (by kernel_rfl) (by kernel_rfl) (by kernel_rfl) (by kernel_rfl) (fun _ _ _ h => h) (.inl ⟨by rfl, ?_⟩) (by assumption) ?_
  rotate_left
  · intro W hSw
    (try dsimp only at hSw)
    go_simp
    (try rfl)
  (try simp only [Act.put, List.getElem_toArray, List.getElem_cons_succ, List.getElem_cons_zero, List.setIfInBounds_toArray, List.set_cons_zero, List.set_cons_succ])
  refine wpL_take' (i := 2) (oi := _) (v := ?_) rfl (by kernel_rfl) (by kernel_rfl) (by kernel_rfl) (by kernel_rfl) (fun _ _ _ h => h) (.inl ⟨by rfl, ?_⟩) (by assumption) ?_
  rotate_left
  · intro W hSw
    (try dsimp only at hSw)
    go_simp
    (try rfl)
  (try simp only [Act.put, List.getElem_toArray, List.getElem_cons_succ, List.getElem_cons_zero, List.setIfInBounds_toArray, List.set_cons_zero, List.set_cons_succ])
  refine wpL_take' (i := 3) (oi := _) (v := ?_) rfl (by kernel_rfl) (by kernel_rfl) (by kernel_rfl) (by kernel_rfl) (fun _ _ _ h => h) (.inl ⟨by rfl, ?_⟩) (by assumption) ?_
  rotate_left
  · intro W hSw
    (try dsimp only at hSw)
    go_simp
    (try rfl)
  (try simp only [Act.put, List.getElem_toArray, List.getElem_cons_succ, List.getElem_cons_zero, List.setIfInBounds_toArray, List.set_cons_zero, List.set_cons_succ])
  refine wpL_take' (i := 4) (oi := _) (v := ?_) rfl (by kernel_rfl) (by kernel_rfl) (by kernel_rfl) (by kernel_rfl) (fun _ _ _ h => h) (.inl ⟨by rfl, ?_⟩) (by assumption) ?_
  rotate_left
  · intro W hSw
    (try dsimp only at hSw)
    go_simp
    (try rfl)
  (try simp only [Act.put, List.getElem_toArray, List.getElem_cons_succ, List.getElem_cons_zero, List.setIfInBounds_toArray, List.set_cons_zero, List.set_cons_succ])
  refine wpL_take' (i := 5) (oi := _) (v := ?_) rfl (by kernel_rfl) (by kernel_rfl) (by kernel_rfl) (by kernel_rfl) (fun _ _ _ h => h) (.inl ⟨by rfl, ?_⟩) (by assumption) ?_
  rotate_left
  · intro W hSw
    (try dsimp only at hSw)
    go_simp
    (try rfl)
  (try simp only [Act.put, List.getElem_toArray, List.getElem_cons_succ, List.getElem_cons_zero, List.setIfInBounds_toArray, List.set_cons_zero, List.set_cons_succ])
  refine wpL_take' (i := 6) (oi := _) (v := ?_) rfl (by kernel_rfl) (by kernel_rfl) (by kernel_rfl) (by kernel_rfl) (fun _ _ _ h => h) (.inl ⟨by rfl, ?_⟩) (by assumption) ?_
  rotate_left
  · intro W hSw
    (try dsimp only at hSw)
    go_simp
    (try rfl)
  (try simp only [Act.put, List.getElem_toArray, List.getElem_cons_succ, List.getElem_cons_zero, List.setIfInBounds_toArray, List.set_cons_zero, List.set_cons_succ])
  refine wpL_take' (i := 7) (oi := _) (v := ?_) rfl (by kernel_rfl) (by kernel_rfl) (by kernel_rfl) (by kernel_rfl) (fun _ _ _ h => h) (.inl ⟨by rfl, ?_⟩) (by assumption) ?_
  rotate_left
  · intro W hSw
    (try dsimp only at hSw)
    go_simp
    (try rfl)
  (try simp only [Act.put, List.getElem_toArray, List.getElem_cons_succ, List.getElem_cons_zero, List.setIfInBounds_toArray, List.set_cons_zero, List.set_cons_succ])
  refine wpL_take' (i := 8) (oi := _) (v := ?_) rfl (by kernel_rfl) (by kernel_rfl) (by kernel_rfl) (by kernel_rfl) (fun _ _ _ h => h) (.inl ⟨by rfl, ?_⟩) (by assumption) ?_
  rotate_left
  · intro W hSw
    (try dsimp only at hSw)
    go_simp
    (try rfl)
  (try simp only [Act.put, List.getElem_toArray, List.getElem_cons_succ, List.getElem_cons_zero, List.setIfInBounds_toArray, List.set_cons_zero, List.set_cons_succ])
  refine wpL_ready (rs := [9]) (by kernel_rfl) (by simp) ?_
  refine AllL.cons (o := _) rfl (fun K hK => ?_) AllL.nil
  go_simp
  refine (HTXT.out w2.drew ((Below.refl w2.heap.size w2).drew)).mono ?_
  rintro e w3 ⟨rfl, hb3'⟩
  have hb3 : Below w2.heap.size w2 w3 := undrew hb3'
  have HB3 := Lib.hid hb3
  have hr3 := HR2.out.below hb3 HR2.out.lt
  obtain ⟨x0, x1, _, _⟩ := facts2 hr3
  unfold leafV at x1
  have D1 := Lib.hid (And.intro x0 x1)
  have HR3 := Lib.hid hr3
  have HWC := Lib.hid (twrite_any E.gT E.m E.vD d rd y (Pl.leafText t) w3 (HT2.out.below hb3 HT2.out.lt) (HD2.out.below hb3) (by have : E.m.first + E.m.n ≤ d.secs.length := HW.out.room; omega) HLEN.out)
  clear hb3' hb3 hr3 x0 x1
  go_wp2_with fail
  refine hK.out _ _ ⟨fun _ => trivial, D1.out⟩ (fun hTill => ?_)
  clear hK K
  (try simp only [Act.put, List.getElem_toArray, List.getElem_cons_succ, List.getElem_cons_zero, List.setIfInBounds_toArray, List.set_cons_zero, List.set_cons_succ])
  refine wpL_ready (rs := [10]) (by kernel_rfl) (by simp) ?_
  refine AllL.cons (o := _) rfl (fun K hK => ?_) AllL.nil
  go_simp
  refine HWC.out.mono ?_
  rintro e w4 ⟨hend, hd4, ho4⟩
  have HD4 := Lib.hid hd4
  have HO4 := Lib.hid ho4
  have HK4 := Lib.hid ((HD2.out.below HB3.out).kinds)
  rcases hend with ⟨hal, rfl⟩ | ⟨hal, rfl⟩
  · have HAL := Lib.hid hal
    have hr4 : RefAt w4 r y (leafV bl) := ho4.blk_ HK4.out HR3.out (by decide)
    obtain ⟨x0, x1, _, _⟩ := facts2 hr4
    unfold leafV at x1
    have D2 := Lib.hid (And.intro x0 x1)
    clear hal hd4 ho4 hr4 x0 x1
    go_wp2_with fail
    refine hK.out _ _ ⟨fun _ => trivial, D2.out⟩ (fun hTill => ?_)
    clear hK K
    (try simp only [Act.put, List.getElem_toArray, List.getElem_cons_succ, List.getElem_cons_zero, List.setIfInBounds_toArray, List.set_cons_zero, List.set_cons_succ])
    refine wpL_done (by kernel_rfl) ?_ _
    clear hTill
    go_wp2_with fail
    go_end0
    have hst := settled E gu gx gt b js 0 t (y : Nat) r nx y (leafV bl) (Pl.leafText t) w w1 w3 w4 rd G d S HW.out HR.out HG.out ⟨bl, rfl, HLF.out⟩ HFA.out hy1 h2 hy2 hy3 HS.out HAL.out
      ⟨HY.out, hy2, by
        show (d.change (.wr (E.m.first + y) (Pl.leafText t))).look (E.m.first + y) = _
        rw [tchange_look HAL.out (by have : E.m.first + E.m.n ≤ d.secs.length := HW.out.room; omega), if_pos rfl]
        rfl⟩ rfl (fun j hj => .inl (List.mem_singleton.1 hj)) HO1.out HX1.out (by rw [HW2.out]; exact HB3.out) HD4.out HO4.out
    have hwr := Wrote.one (first := E.m.first) (P := fun j => 2 ≤ j ∧ j ∉ js) d y (Pl.leafText t) ⟨HY.out, hy3⟩
    rw [HAL.out] at hwr
    refine .inl ⟨_, S ++ [y], y + 1, rfl, hst.1, hst.2.1, by omega, by omega, hst.2.2.1, hst.2.2.2.1, hst.2.2.2.2.1, hst.2.2.2.2.2.1, hst.2.2.2.2.2.2, hwr, fun j hj => List.mem_append_left _ hj, fun j hj => ?_⟩
    rcases List.mem_append.1 hj with h | h
    · rcases HS.out j h with h | h
      · exact .inl h
      · exact .inr (by omega)
    · have := List.mem_singleton.1 h
      exact .inr (by omega)
  · have HAL := Lib.hid hal
    clear hal hd4 ho4
    unfold tdied
    go_wp2_with fail
    have hwr := Wrote.one (first := E.m.first) (P := fun j => 2 ≤ j ∧ j ∉ js) d y (Pl.leafText t) ⟨HY.out, hy3⟩
    rw [HAL.out] at hwr
    exact ⟨rfl, .inr ⟨rfl, ⟨_, hwr, HD4.out⟩, (HFR2.out.trans (SFr.of_below HB3.out)).trans ⟨_, HO4.out, HK4.out.spare.mono (by simp [saveT])⟩, HGK2.out.trans ((Gk.of_below HB3.out).trans (Gk.of_disk (HD2.out.below HB3.out) (by have : E.m.first + E.m.n ≤ d.secs.length := HW.out.room; omega) HW.out.low.d HO4.out))⟩⟩
end Go.Proofs.YtljmklohgpaopaaGreatDoor
