/- The walks of the log's Create, do, Sync, Reset. The walks of the log's Sync, Reset. The walk of the log's Reset. -/
import Derived.Test.YtljmklohgpaopaaDoorMgLogs9
import Derived.Test.YtljmklohgpaopaaDoorMgLogs11

namespace Go.Proofs.YtljmklohgpaopaaDoor
open Go.RowKit

/-- The error of a kind (0: none). -/
def errK (k : Nat) : Value := if k = 0 then .nilIface else kindE k
theorem errK_err (w : World) (k : Nat) : ErrV w (errK k) k ⟨#[]⟩ := by
  unfold errK
  split
  · next h => subst h; exact ErrV.nil w
  · exact ErrV.kind w k
/-- How a body's end tells a kind. -/
def EndK (k : Nat) (e : Ending) : Prop := (k = 0 ∧ e = .returned (.tuple #[])) ∨ (k = 3 ∧ e = died 3) ∨ (k = 2 ∧ e = died 2)

theorem enters_create (W : World) (a b c : Value) : (callFunc 66 #[a, b, c]).run Tryd.prog W = .ok (.enter 66 #[a, b, c]) W := by simp [go_sem]

/-- The guarded call, by kinds. -/
theorem guardedK (K : FuncId) (caps : Array Value) (w : World) (Q : Nat → World → Prop) (hK : ∀ W, (callFunc K caps).run Tryd.prog W = .ok (.enter K caps) W)
    (h : Calls Tryd.prog K caps (w.alloc (.cells #[.nilIface] 70)) fun e w' => Blk w' w.heap.size 70 [.nilIface] ∧ ∃ k, EndK k e ∧ Q k w') :
    Calls Tryd.prog 59 #[.func (.func K) #[] caps] w fun e w'' => ∃ k w', (k = 0 ∨ k = 3 ∨ k = 2) ∧ Q k w' ∧ Only (· = w.heap.size) w' w'' ∧ e = .returned (errK k) := by
  refine (guarded_any K caps w (fun o w' => ∃ k, (k = 0 ∨ k = 3 ∨ k = 2) ∧ o.getD .nilIface = errK k ∧ Q k w') hK ?_).mono ?_
  · refine h.mono ?_
    rintro e w' ⟨hb, k, hk, hq⟩
    refine ⟨hb, ?_⟩
    rcases hk with ⟨rfl, rfl⟩ | ⟨rfl, rfl⟩ | ⟨rfl, rfl⟩
    · exact .inl ⟨rfl, 0, .inl rfl, rfl, hq⟩
    · exact .inr ⟨_, _, rfl, 3, .inr (.inl rfl), rfl, hq⟩
    · exact .inr ⟨_, _, rfl, 2, .inr (.inr rfl), rfl, hq⟩
  · rintro e w'' ⟨o, w', ⟨k, hk, ho, hq⟩, hon, rfl⟩
    exact ⟨k, w', hk, hq, hon, by rw [ho]⟩

theorem Ends.endK {ok : Bool} {e : Ending} (h : Ends ok 3 e) : EndK (if ok then 0 else 3) e := by
  rcases h with ⟨rfl, rfl⟩ | ⟨rfl, rfl⟩
  · exact .inl ⟨rfl, rfl⟩
  · exact .inr (.inl ⟨rfl, rfl⟩)

theorem wcreate_no (g : Nat) (v : Value) (d : Pl.Dk) (rd : Int) (first sectors : Int) (w : World) (h : DiskAt w g v d rd) (hp : placedB d.secs.length first sectors 4 = false) :
    Calls Tryd.prog 36 #[.pointer (some ⟨g, 0, none⟩), .int .i64 first, .int .i64 sectors] w fun e w' => e = .returned (kindE 1) ∧ Below w.heap.size w w' := by
  have hb : Below w.heap.size w (((w.alloc (.cells #[.pointer (some ⟨g, 0, none⟩)] 37)).alloc (.cells #[.int .i64 first] 3)).alloc (.cells #[.int .i64 sectors] 3)) :=
    (((Below.refl _ _).alloc (Nat.le_refl _) _).alloc (by simp) _).alloc (by simp; omega) _
  have H := Lib.hid (wplaced_any g v d rd first sectors 4 _ (h.below hb))
  rw [hp] at H
  have HB := Lib.hid hb
  clear h hp hb
  go_enter Tryd.func36, Tryd.ntmps36
  go_wp2_with fail
  refine H.out.mono ?_
  rintro e w' ⟨rfl, rfl⟩
  go_wp2_with fail
  go_ret
  exact ⟨rfl, HB.out⟩
theorem wcreate_nil (first sectors : Int) (w : World) :
    Calls Tryd.prog 36 #[.pointer none, .int .i64 first, .int .i64 sectors] w fun e w' => e = .returned (kindE 1) ∧ Below w.heap.size w w' := by
  have hb : Below w.heap.size w (((w.alloc (.cells #[.pointer none] 37)).alloc (.cells #[.int .i64 first] 3)).alloc (.cells #[.int .i64 sectors] 3)) :=
    (((Below.refl _ _).alloc (Nat.le_refl _) _).alloc (by simp) _).alloc (by simp; omega) _
  have HB := Lib.hid hb
  clear hb
  go_enter Tryd.func36, Tryd.ntmps36
  go_wp2_with fail
  refine (wplaced_nil first sectors 4 _).mono ?_
  rintro e w' ⟨rfl, rfl⟩
  go_wp2_with fail
  go_ret
  exact ⟨rfl, HB.out⟩

theorem createLog_eq (d : Pl.Dk) (first n : Nat) : Pl.createLog d first n = ((d.run (Pl.createOps first n)).1, if (d.run (Pl.createOps first n)).2 then 0 else 3) := by
  unfold Pl.createLog
  rcases d.run (Pl.createOps first n) with ⟨d', ok⟩
  cases ok <;> rfl

set_option maxHeartbeats 1000000 in
theorem wcreate_yes (g : Nat) (v : Value) (d : Pl.Dk) (rd : Int) (first n : Nat) (w : World) (h : DiskAt w g v d rd) (hp : placedB d.secs.length first n 4 = true) :
    Calls Tryd.prog 36 #[.pointer (some ⟨g, 0, none⟩), .int .i64 (first : Nat), .int .i64 (n : Nat)] w fun e w' => e = .returned (errK (Pl.createLog d first n).2) ∧ DiskAt w' g v (Pl.createLog d first n).1 rd ∧ Only (dF g v) w w' := by
  have hfit : 4 ≤ n ∧ first + n ≤ d.secs.length := by
    unfold placedB at hp
    simp only [Bool.and_eq_true, decide_eq_true_eq] at hp
    omega
  obtain ⟨w3, hw3⟩ : ∃ w3, ((w.alloc (.cells #[.pointer (some ⟨g, 0, none⟩)] 37)).alloc (.cells #[.int .i64 (first : Nat)] 3)).alloc (.cells #[.int .i64 (n : Nat)] 3) = w3 := ⟨_, rfl⟩
  have hb : Below w.heap.size w w3 := by rw [← hw3]; exact (((Below.refl _ _).alloc (Nat.le_refl _) _).alloc (by simp) _).alloc (by simp; omega) _
  have B1 : Blk w3 w.heap.size 37 [.pointer (some ⟨g, 0, none⟩)] := by rw [← hw3]; exact ((Blk.new _ _ _).alloc _).alloc _
  have B2 : Blk w3 (w.heap.size + 1) 3 [.int .i64 (first : Nat)] := by rw [← hw3]; exact (Blk.newAt _ _ _ _ (by simp)).alloc _
  have B3 : Blk w3 (w.heap.size + 1 + 1) 3 [.int .i64 (n : Nat)] := by rw [← hw3]; exact Blk.newAt _ _ _ _ (by simp)
  have h3 := h.below hb
  have cD := B1.cell 0
  have cF := B2.cell 0
  have cS := B3.cell 0
  simp only [List.getElem?_cons_zero] at cD cF cS
  have HP := Lib.hid (wplaced_any g v d rd first n 4 w3 h3)
  rw [hp] at HP
  have hbe : Below w3.heap.size w3 (w3.alloc (.cells #[.nilIface] 70)) := (Below.refl _ _).alloc (Nat.le_refl _) _
  have hG := guardedK 66 #[.pointer (some ⟨w.heap.size + 1 + 1, 0, none⟩), .pointer (some ⟨w.heap.size, 0, none⟩), .pointer (some ⟨w.heap.size + 1, 0, none⟩)] w3
    (fun k w' => k = (Pl.createLog d first n).2 ∧ DiskAt w' g v (Pl.createLog d first n).1 rd ∧ Only (dF g v) w w') (fun W => enters_create W _ _ _) (by
      refine (create1_any g _ _ _ first n v d rd _ (h3.below hbe) (B3.below hbe B3.lt) (B1.below hbe B1.lt) (B2.below hbe B2.lt) hfit.2 hfit.1).mono ?_
      rintro e w' ⟨he, hd, ho⟩
      have BE := Blk.new w3 70 [.nilIface]
      refine ⟨ho.blk BE ((h3.below hbe).off BE (by decide) (by decide)), _, he.endK, ?_⟩
      rw [createLog_eq]
      exact ⟨rfl, hd, ((Only.of_below hb (dF g v)).below hbe).trans' ho⟩)
  have HGG := Lib.hid hG
  have HB := Lib.hid hb
  have hlt := Lib.hid h.lt
  have hmf : ∀ (fn : Fn) (first cap : Array Value) (w : World), (Instr.makeFunc fn first cap).run Tryd.prog w = .ok (.func fn first cap) w := fun _ _ _ _ => rfl
  have hs3 := HB.out.size
  clear h hp h3 B1 B2 B3 hb hbe hG
  go_enter Tryd.func36, Tryd.ntmps36
  go_wp2_with fail
  refine HP.out.mono ?_
  rintro e w' ⟨rfl, rfl⟩
  clear hw3
  go_wp2_with fail
  refine HGG.out.mono ?_
  rintro e w'' ⟨k, w', hk, ⟨rfl, hd, ho⟩, hon, rfl⟩
  have HD := Lib.hid hd
  have HO := Lib.hid (ho.trans hon (fun x hx e => by omega))
  have HD2 := Lib.hid (HD.out.only hon (fun k hk e => by have := hlt.out k hk; omega))
  clear hd ho hon hk
  go_wp2_with fail
  go_ret
  exact ⟨rfl, HD2.out, HO.out⟩

/-- What a log's cells and its row are. -/
structure RowsAt (w : World) (va : Value) (vs : List Value) (ls : List (List UInt8)) : Prop where
  own : w.ownsRow 0 23 1 va ls.length vs
  each : ∀ (k : Nat) (v : Value) (l : List UInt8), vs[k]? = some v → ls[k]? = some l → w.ownsRow 0 5 1 v l.length (bv l)

set_option maxHeartbeats 1000000 in
theorem do_bad (gl g : Nat) (va : Value) (l : Pl.Lg) (f : Value) (w : World) (h : LogCells w gl g va l) (hb : l.bad = true) :
    Calls Tryd.prog 95 #[.pointer (some ⟨gl, 0, none⟩), f] w fun e w' => e = .returned (kindE 3) ∧ w = w' := by
  obtain ⟨a0, a1, a2, a3, a4, a5, a6, b0, b1, b2, b3, b4, b5, b6⟩ := facts7 h.blk
  rw [hb] at a6
  clear h hb
  go_enter Tryd.func95, Tryd.ntmps95
  go_wp2_with fail
  go_ret
  exact ⟨rfl, rfl⟩

set_option maxHeartbeats 1000000 in
/-- Something is done unless the log is bad: the body's end by Q; then the log is bad just if the disk failed. -/
theorem do_any (gl g : Nat) (va : Value) (l : Pl.Lg) (K : FuncId) (caps : Array Value) (w : World) (h : LogCells w gl g va l) (hb : l.bad = false) (Q : Nat → World → Prop) (hK : ∀ W, (callFunc K caps).run Tryd.prog W = .ok (.enter K caps) W)
    (hQ : ∀ k w', Q k w' → ∃ c0 c1 c2 c3 c4 c5, Blk w' gl 125 [c0, c1, c2, c3, c4, c5, .bool false])
    (hc : Calls Tryd.prog K caps (w.alloc (.cells #[.nilIface] 70)) fun e w' => Blk w' w.heap.size 70 [.nilIface] ∧ ∃ k, EndK k e ∧ Q k w') :
    Calls Tryd.prog 95 #[.pointer (some ⟨gl, 0, none⟩), .func (.func K) #[] caps] w fun e w'' => ∃ k w', Q k w' ∧ e = .returned (errK k) ∧ Only (fun b => b = w.heap.size ∨ b = gl) w' w'' ∧
      ∀ c0 c1 c2 c3 c4 c5 c6, Blk w' gl 125 [c0, c1, c2, c3, c4, c5, c6] → Blk w'' gl 125 [c0, c1, c2, c3, c4, c5, .bool (k == 3)] := by
  obtain ⟨a0, a1, a2, a3, a4, a5, a6, b0, b1, b2, b3, b4, b5, b6⟩ := facts7 h.blk
  rw [hb] at a6
  have hlt := Lib.hid h.blk.lt
  have HG := Lib.hid (guardedK K caps w Q hK hc)
  have HQ := Lib.hid hQ
  clear h hb hK hQ hc
  go_enter Tryd.func95, Tryd.ntmps95
  go_wp2_with fail
  refine HG.out.mono ?_
  rintro e w2 ⟨k, w1, hk, hq, hon, rfl⟩
  obtain ⟨c0, c1, c2, c3, c4, c5, hB⟩ := HQ.out k w1 hq
  have hB2 := hon.blk hB (fun e => by have := hlt.out; omega)
  have HQ1 := Lib.hid hq
  have HO := Lib.hid hon
  have HE := Lib.hid (errK_err w2 k)
  have f6 := hB2.frozen 6
  have d6 := hB2.cell 6
  simp only [List.getElem?_cons_zero, List.getElem?_cons_succ] at d6
  have HB1 := Lib.hid hB
  have HB2 := Lib.hid hB2
  obtain ⟨ev, hev⟩ : ∃ ev, errK k = ev := ⟨_, rfl⟩
  rw [hev] at HE ⊢
  have HEV := Lib.hid hev
  obtain ⟨q, hqk⟩ : ∃ q, ((k : Int) == 3) = q := ⟨_, rfl⟩
  have HQK := Lib.hid hqk
  clear hq hon hB hB2 hk hev hqk
  go_wp2_with fail
  refine (is_any ev k ⟨#[]⟩ 3 w2 HE.out (by omega)).mono ?_
  rintro e w' ⟨rfl, rfl⟩
  rw [HQK.out]
  go_wp2_with fail
  go_ret
  refine ⟨k, w1, HQ1.out, by rw [HEV.out]; rfl, ?_, ?_⟩
  · exact (HO.out.mono (fun _ _ h => .inl h)).setCell (p := ⟨gl, 6, none⟩) (.inl (.inr rfl)) _
  · intro x0 x1 x2 x3 x4 x5 x6 hx
    have hx2 := (HO.out.blk hx (fun e => by have := hlt.out; omega)).set_ 6 (.bool q)
    have hqq : (k == 3) = q := by
      rw [← HQK.out]
      by_cases h3 : k = 3
      · subst h3; rfl
      · rw [beq_eq_false_iff_ne.2 h3, beq_eq_false_iff_ne.2 (by omega)]
    rw [hqq]
    exact hx2
end Go.Proofs.YtljmklohgpaopaaDoor

namespace Go.Proofs.YtljmklohgpaopaaDoor
open Go.RowKit

/-- Block k holds cells of this element type. -/
def Typ (w : World) (k : Nat) (t : TypeId) : Prop := ∃ cs fz, w.heap[k]? = some (.cells cs t fz)
theorem Typ.uniq {w : World} {k : Nat} {t t' : TypeId} (h : Typ w k t) (h' : Typ w k t') : t = t' := by
  obtain ⟨cs, fz, h⟩ := h
  obtain ⟨cs', fz', h'⟩ := h'
  rw [h] at h'
  injection h' with h'
  injection h' with _ h'
theorem Blk.typ {w : World} {k : Nat} {t : TypeId} {cs : List Value} (h : Blk w k t cs) : Typ w k t := ⟨_, _, h⟩
theorem Blk.ne {w : World} {a b : Nat} {t t' : TypeId} {cs cs' : List Value} (h : Blk w a t cs) (h' : Blk w b t' cs') (ht : t ≠ t') : a ≠ b := by
  rintro rfl
  exact ht (h.uniqT h')
theorem own_typ {w : World} {base size n g : Nat} {e : TypeId} {v : Value} {xs : List Value} (h : w.ownsRow base e size v n xs) (hv : v.ownBlock = some g) : Typ w g e := by
  rcases h.2 with ⟨rfl, _⟩ | ⟨g', cap, cur, rfl, _, hg, _⟩
  · cases hv
  · have : g' = g := by simpa [Value.ownBlock] using hv
    subst this
    exact ⟨_, _, hg⟩
/-- The blocks of F are of these types. -/
def Kinds (F : Nat → Prop) (w : World) (ts : List TypeId) : Prop := ∀ k, F k → ∃ t, t ∈ ts ∧ Typ w k t
theorem DiskAt.kinds {w : World} {g : Nat} {v : Value} {d : Pl.Dk} {rd : Int} (h : DiskAt w g v d rd) : Kinds (dF g v) w [90, 92] := by
  obtain ⟨wr, sy, hg⟩ := h.blk
  rintro k (rfl | hk)
  · exact ⟨_, by simp, hg.typ⟩
  · exact ⟨_, by simp, own_typ h.own hk⟩
theorem Only.blk_ {F : Nat → Prop} {w w' : World} {k : Nat} {t : TypeId} {cs : List Value} {ts : List TypeId} (ho : Only F w w') (hF : Kinds F w ts) (h : Blk w k t cs) (ht : t ∉ ts) : Blk w' k t cs :=
  ho.blk h (fun hk => by obtain ⟨t', h1, h2⟩ := hF k hk; exact ht (h.typ.uniq h2 ▸ h1))
theorem Only.own_ {F : Nat → Prop} {w w' : World} {base n size : Nat} {e : TypeId} {v : Value} {xs : List Value} {ts : List TypeId} (ho : Only F w w') (hF : Kinds F w ts) (h : w.ownsRow base e size v n xs) (ht : e ∉ ts) : w'.ownsRow base e size v n xs :=
  ho.own h (fun g hg hk => by obtain ⟨t', h1, h2⟩ := hF g hk; exact ht ((own_typ h hg).uniq h2 ▸ h1))
theorem RowsAt.only {F : Nat → Prop} {w w' : World} {va : Value} {vs : List Value} {ls : List (List UInt8)} {ts : List TypeId} (h : RowsAt w va vs ls) (ho : Only F w w') (hF : Kinds F w ts) (h1 : 23 ∉ ts) (h2 : 5 ∉ ts) : RowsAt w' va vs ls :=
  ⟨ho.own_ hF h.own h1, fun k v l hv hl => ho.own_ hF (h.each k v l hv hl) h2⟩
/-- What a log's calls may write, but for its row. -/
def lF (gl g : Nat) (v : Value) (k : Nat) : Prop := dF g v k ∨ k = gl
theorem lF_kinds {w : World} {gl g : Nat} {v va : Value} {d : Pl.Dk} {rd : Int} {l : Pl.Lg} (h : DiskAt w g v d rd) (hl : LogCells w gl g va l) : Kinds (lF gl g v) w [90, 92, 125] := by
  rintro k (hk | rfl)
  · obtain ⟨t, h1, h2⟩ := h.kinds k hk
    refine ⟨t, ?_, h2⟩
    simp only [List.mem_cons, List.not_mem_nil, or_false] at h1 ⊢
    rcases h1 with rfl | rfl <;> simp
  · exact ⟨_, by simp, hl.blk.typ⟩
theorem LogCells.only {F : Nat → Prop} {w w' : World} {gl g : Nat} {va : Value} {l : Pl.Lg} {ts : List TypeId} (h : LogCells w gl g va l) (ho : Only F w w') (hF : Kinds F w ts) (h1 : 125 ∉ ts) : LogCells w' gl g va l := ⟨ho.blk_ hF h.blk h1, h.small⟩
theorem LogCells.below {w w' : World} {gl g : Nat} {va : Value} {l : Pl.Lg} (h : LogCells w gl g va l) (hb : Below w.heap.size w w') : LogCells w' gl g va l := ⟨h.blk.below hb h.blk.lt, h.small⟩

theorem enters_sync (W : World) (a : Value) : (callFunc 99 #[a]).run Tryd.prog W = .ok (.enter 99 #[a]) W := by simp [go_sem]
theorem enters_reset (W : World) (a : Value) : (callFunc 100 #[a]).run Tryd.prog W = .ok (.enter 100 #[a]) W := by simp [go_sem]

theorem facts1 {w : World} {g : Nat} {t : TypeId} {a0 : Value} (h : Blk w g t [a0]) : w.cell? ⟨g, 0, none⟩ = some a0 ∧ w.frozen? ⟨g, 0, none⟩ = false := ⟨h.cell 0, h.frozen 0⟩

set_option maxHeartbeats 1000000 in
theorem sync1_any (gl g bl : Nat) (v va : Value) (d : Pl.Dk) (rd : Int) (l : Pl.Lg) (w : World) (h : DiskAt w g v d rd) (hl : LogCells w gl g va l) (hB : Blk w bl 39 [.pointer (some ⟨gl, 0, none⟩)]) :
    Calls Tryd.prog 99 #[.pointer (some ⟨bl, 0, none⟩)] w (RunPost [.sy] g v d rd w) := by
  obtain ⟨a0, a1, a2, a3, a4, a5, a6, b0, b1, b2, b3, b4, b5, b6⟩ := facts7 hl.blk
  obtain ⟨cB, _⟩ := facts1 hB
  have H := Lib.hid (wsync_any g v d rd w h)
  clear h hl hB
  go_enter Tryd.func99, Tryd.ntmps99
  go_wp2_with fail
  refine H.out.mono ?_
  rintro e w2 ⟨⟨hal, rfl⟩ | ⟨hal, rfl⟩, h2, ho2⟩
  · have H2 := Lib.hid h2
    have O2 := Lib.hid ho2
    have R2 := Lib.hid (Pl.run_go (c := .sy) (Pl.Dk.run_nil d) hal)
    clear h2 ho2 hal
    go_wp2_with fail
    go_end0
    exact RunPost.good R2.out H2.out O2.out
  · have H2 := Lib.hid h2
    have O2 := Lib.hid ho2
    have HAL := Lib.hid hal
    clear h2 ho2 hal
    unfold died
    go_wp2_with fail
    exact ⟨rfl, RunPost.stop (a := []) (r := []) rfl (Pl.Dk.run_nil d) HAL.out H2.out O2.out⟩

/-- What a log's call leaves: the plain one's answer. -/
def LogPost (r : Pl.Lg × Pl.Dk × Nat) (gl g : Nat) (v va : Value) (rd : Int) (w : World) (e : Ending) (w' : World) : Prop :=
  e = .returned (errK r.2.2) ∧ DiskAt w' g v r.2.1 rd ∧ LogCells w' gl g va r.1 ∧ Only (lF gl g v) w w'

theorem sync_bad {l : Pl.Lg} (d : Pl.Dk) (h : l.bad = true) : l.sync d = (l, d, 3) := by unfold Pl.Lg.sync; rw [h, if_pos rfl]
theorem sync_eq {l : Pl.Lg} (d : Pl.Dk) (h : l.bad = false) : l.sync d = ({ l with bad := !(d.run [.sy]).2 }, (d.run [.sy]).1, if (d.run [.sy]).2 then 0 else 3) := by
  unfold Pl.Lg.sync
  rw [h, if_neg (by decide)]
  rcases d.run [.sy] with ⟨d', ok⟩
  cases ok
  · rfl
  · cases l; simp at h; subst h; rfl

set_option maxHeartbeats 1000000 in
theorem wlSync_any (gl g : Nat) (v va : Value) (d : Pl.Dk) (rd : Int) (l : Pl.Lg) (w : World) (h : DiskAt w g v d rd) (hl : LogCells w gl g va l) :
    Calls Tryd.prog 71 #[.pointer (some ⟨gl, 0, none⟩)] w (LogPost (l.sync d) gl g v va rd w) := by
  have hb1 : Below w.heap.size w (w.alloc (.cells #[.pointer (some ⟨gl, 0, none⟩)] 39)) := (Below.refl _ _).alloc (Nat.le_refl _) _
  have hmf : ∀ (fn : Fn) (first cap : Array Value) (w : World), (Instr.makeFunc fn first cap).run Tryd.prog w = .ok (.func fn first cap) w := fun _ _ _ _ => rfl
  have H := Lib.hid h
  have HL := Lib.hid hl
  have HB1 := Lib.hid hb1
  cases hbad : l.bad
  · obtain ⟨w1, hw1⟩ : ∃ w1, w.alloc (.cells #[.pointer (some ⟨gl, 0, none⟩)] 39) = w1 := ⟨_, rfl⟩
    rw [hw1] at hb1
    have B0 : Blk w1 w.heap.size 39 [.pointer (some ⟨gl, 0, none⟩)] := by rw [← hw1]; exact Blk.new _ _ _
    have hbe : Below w1.heap.size w1 (w1.alloc (.cells #[.nilIface] 70)) := (Below.refl _ _).alloc (Nat.le_refl _) _
    have h1 := h.below hb1
    have hl1 := hl.below hb1
    have HD := Lib.hid (do_any gl g va l 99 #[.pointer (some ⟨w.heap.size, 0, none⟩)] w1 hl1 hbad
      (fun k w' => k = (l.sync d).2.2 ∧ DiskAt w' g v (l.sync d).2.1 rd ∧ LogCells w' gl g va l ∧ Only (dF g v) w w') (fun W => enters_sync W _)
      (fun k w' hq => ⟨_, _, _, _, _, _, by have := hq.2.2.1.blk; unfold lgCells at this; rw [hbad] at this; exact this⟩) (by
        refine (sync1_any gl g _ v va d rd l _ (h1.below hbe) (hl1.below hbe) (B0.below hbe B0.lt)).mono ?_
        rintro e w' ⟨he, hd, ho⟩
        have BE := Blk.new w1 70 [.nilIface]
        refine ⟨ho.blk_ (h1.below hbe).kinds BE (by decide), _, he.endK, ?_⟩
        rw [sync_eq d hbad]
        exact ⟨rfl, hd, (hl1.below hbe).only ho (h1.below hbe).kinds (by decide), ((Only.of_below hb1 (dF g v)).below hbe).trans' ho⟩))
    have hsz1 := hb1.size
    have HBD := Lib.hid hbad
    obtain ⟨cB, _⟩ := facts1 B0
    clear h hl h1 hl1 hb1 hbe B0 hbad
    go_enter Tryd.func71, Tryd.ntmps71
    go_wp2_with fail
    refine HD.out.mono ?_
    rintro e w3 ⟨k, w2, ⟨rfl, hd2, hl2, ho2⟩, rfl, hon, hblk⟩
    have hne : ∀ k, lF gl g v k → k < w.heap.size := by
      rintro k (hk | rfl)
      · exact H.out.lt k hk
      · exact HL.out.blk.lt
    have hgl : ¬ dF g v gl := fun hk => by
      obtain ⟨t, h1, h2⟩ := H.out.kinds gl hk
      have := HL.out.blk.typ.uniq h2
      subst this
      revert h1
      decide
    have hd3 := hd2.only hon (fun k hk e => by
      rcases e with e | e
      · have := hne k (.inl hk); omega
      · exact hgl (e ▸ hk))
    have hl3 : LogCells w3 gl g va (l.sync d).1 := by
      have := hblk _ _ _ _ _ _ _ hl2.blk
      rw [sync_eq d HBD.out] at this ⊢
      refine ⟨?_, HL.out.small⟩
      unfold lgCells
      cases hok : (d.run [.sy]).2
      · rw [hok] at this; exact this
      · rw [hok] at this; exact this
    have ho3 : Only (lF gl g v) w w3 := (ho2.mono (fun _ _ h => .inl h)).trans hon (fun x hx e => by
      rcases e with e | e
      · omega
      · exact .inr e)
    have HD3 := Lib.hid hd3
    have HL3 := Lib.hid hl3
    have HO3 := Lib.hid ho3
    clear hd2 hl2 ho2 hon hblk hne hgl hd3 hl3 ho3
    go_wp2_with fail
    go_ret
    exact ⟨rfl, HD3.out, HL3.out, HO3.out⟩
  · have HDB := Lib.hid (do_bad gl g va l (.func (.func 99) #[] #[.pointer (some ⟨w.heap.size, 0, none⟩)]) _ (hl.below hb1) hbad)
    have HBD := Lib.hid hbad
    clear h hl hb1 hbad
    go_enter Tryd.func71, Tryd.ntmps71
    go_wp2_with fail
    refine HDB.out.mono ?_
    rintro e w' ⟨rfl, rfl⟩
    go_wp2_with fail
    go_ret
    rw [LogPost, sync_bad d HBD.out]
    exact ⟨rfl, H.out.below HB1.out, HL.out.below HB1.out, Only.of_below HB1.out _⟩
end Go.Proofs.YtljmklohgpaopaaDoor

namespace Go.Proofs.YtljmklohgpaopaaDoor
open Go.RowKit

def resetOps (l : Pl.Lg) : List Pl.Ch := [.wr (l.first + (l.epoch + 1) % 2) (Pl.slotText (l.epoch + 1)), .sy]
def resetLg (l : Pl.Lg) : Pl.Lg := { l with epoch := l.epoch + 1, next := 0, all := [] }
def Reset1Post (gl g : Nat) (v va : Value) (d : Pl.Dk) (rd : Int) (l : Pl.Lg) (w : World) (e : Ending) (w' : World) : Prop :=
  Ends (d.run (resetOps l)).2 3 e ∧ DiskAt w' g v (d.run (resetOps l)).1 rd ∧ LogCells w' gl g (if (d.run (resetOps l)).2 then .slice none 0 0 else va) (if (d.run (resetOps l)).2 then resetLg l else l) ∧ Only (lF gl g v) w w'
theorem slot_len (e : Nat) : (Pl.slotText e).length ≤ 256 := by simp [Pl.slotText, Pl.be_length]
theorem Reset1Post.stop {gl g : Nat} {v va : Value} {d d' : Pl.Dk} {rd : Int} {l : Pl.Lg} {w w' : World} (h : d.run (resetOps l) = (d', false)) (hd : DiskAt w' g v d' rd) (hl : LogCells w' gl g va l) (ho : Only (lF gl g v) w w') : Reset1Post gl g v va d rd l w (died 3) w' := by
  unfold Reset1Post
  rw [h]
  exact ⟨Ends.no 3, hd, hl, ho⟩
theorem Reset1Post.good {gl g : Nat} {v va : Value} {d d' : Pl.Dk} {rd : Int} {l : Pl.Lg} {w w' : World} (h : d.run (resetOps l) = (d', true)) (hd : DiskAt w' g v d' rd) (hl : LogCells w' gl g (.slice none 0 0) (resetLg l)) (ho : Only (lF gl g v) w w') : Reset1Post gl g v va d rd l w (.returned (.tuple #[])) w' := by
  unfold Reset1Post
  rw [h]
  exact ⟨Ends.good 3, hd, hl, ho⟩
theorem dF_lF {gl g : Nat} {v : Value} {k : Nat} (h : dF g v k) : lF gl g v k := .inl h

set_option maxHeartbeats 4000000 in
set_option maxRecDepth 100000 in
theorem reset1_any (gl g bl : Nat) (v va : Value) (d : Pl.Dk) (rd : Int) (l : Pl.Lg) (w : World) (h : DiskAt w g v d rd) (hl : LogCells w gl g va l) (hB : Blk w bl 39 [.pointer (some ⟨gl, 0, none⟩)])
    (hfit : l.first + 2 ≤ d.secs.length) (hep : l.epoch + 1 < 18446744073709551616) :
    Calls Tryd.prog 100 #[.pointer (some ⟨bl, 0, none⟩)] w (Reset1Post gl g v va d rd l w) := by
  obtain ⟨a0, a1, a2, a3, a4, a5, a6, b0, b1, b2, b3, b4, b5, b6⟩ := facts7 hl.blk
  obtain ⟨cB, _⟩ := facts1 hB
  have s0 := Lib.hid (⟨cB, a0, a1, a3⟩ : w.cell? ⟨bl, 0, none⟩ = some (.pointer (some ⟨gl, 0, none⟩)) ∧ w.cell? ⟨gl, 0, none⟩ = some (.pointer (some ⟨g, 0, none⟩)) ∧ w.cell? ⟨gl, 1, none⟩ = some (.int .i64 (l.first : Nat)) ∧ w.cell? ⟨gl, 3, none⟩ = some (.int .u64 (l.epoch : Nat)))
  have hsm := hl.small
  have hm := h.most
  have H := Lib.hid h
  have HL := Lib.hid hl
  have HB := Lib.hid hB
  obtain ⟨ep, hepe⟩ : ∃ ep : Nat, (l.epoch : Int) + 1 = ep := ⟨l.epoch + 1, by omega⟩
  have HEP : Hid (ep = l.epoch + 1) := by rw [Hid]; omega
  have hepl : ep < 18446744073709551616 := by rw [HEP.out]; exact hep
  have hwe : IntKind.u64.wrap (ep : Int) = (ep : Int) := IntWalk.u64_in _ (by omega)
  obtain ⟨q, hq⟩ : ∃ q : Nat, (ep : Int).tmod 2 = q := ⟨ep % 2, by rw [Int.tmod_eq_emod_of_nonneg (by omega)]; omega⟩
  have HQ : Hid (q = ep % 2) := by rw [Hid]; rw [Int.tmod_eq_emod_of_nonneg (by omega)] at hq; omega
  have hq2 : q < 2 := by rw [HQ.out]; omega
  obtain ⟨p, hp⟩ : ∃ p : Nat, (l.first : Int) + q = p := ⟨l.first + q, by omega⟩
  have HP : Hid (p = l.first + q) := by rw [Hid]; omega
  have hpl : p < d.secs.length := by rw [HP.out]; omega
  have HPL := Lib.hid hpl
  have hwp : IntKind.i64.wrap (p : Int) = (p : Int) := IntWalk.i64_in _ (by omega)
  have hwq : IntKind.i64.wrap (q : Int) = (q : Int) := IntWalk.i64_in _ (by omega)
  obtain ⟨st, hst⟩ : ∃ t, tstr (Pl.slotText ep) = t := ⟨_, rfl⟩
  have HST := Lib.hid hst
  have HSM := Lib.hid hsm
  clear h hl hB cB a0 a1 a2 a3 a4 a5 a6 b0 b1 b2 b3 b4 b5 b6 hep hfit hpl hst hsm
  go_enter Tryd.func100, Tryd.ntmps100
  go_wp2_with fail
  refine wp_region_held_drew (S := fun W : World => W.cell? ⟨bl, 0, none⟩ = some (.pointer (some ⟨gl, 0, none⟩)) ∧ W.cell? ⟨gl, 0, none⟩ = some (.pointer (some ⟨g, 0, none⟩)) ∧ W.cell? ⟨gl, 1, none⟩ = some (.int .i64 (l.first : Nat)) ∧ W.cell? ⟨gl, 3, none⟩ = some (.int .u64 (l.epoch : Nat))) (by kernel_rfl) s0.out (fun hHeld => ?_)
  refine wpAnyH_take (i := 0) (oi := _) (v := ?_) rfl (by kernel_rfl) (by kernel_rfl) (by kernel_rfl) (fun _ _ _ h => h) (Or.inl ⟨by rfl, ?_⟩) (by assumption) ?_
  rotate_left
  · intro W hSw
    (try dsimp only at hSw)
    go_simp
    rfl
  (try simp only [Act.put, List.getElem_toArray, List.getElem_cons_succ, List.getElem_cons_zero, List.setIfInBounds_toArray, List.set_cons_zero, List.set_cons_succ])
  refine wpAnyH_take (i := 1) (oi := _) (v := ?_) rfl (by kernel_rfl) (by kernel_rfl) (by kernel_rfl) (fun _ _ _ h => h) (Or.inl ⟨by rfl, ?_⟩) (by assumption) ?_
  rotate_left
  · intro W hSw
    (try dsimp only at hSw)
    go_simp
    rfl
  (try simp only [Act.put, List.getElem_toArray, List.getElem_cons_succ, List.getElem_cons_zero, List.setIfInBounds_toArray, List.set_cons_zero, List.set_cons_succ])
  refine wpAnyH_take (i := 2) (oi := _) (v := ?_) rfl (by kernel_rfl) (by kernel_rfl) (by kernel_rfl) (fun _ _ _ h => h) (Or.inl ⟨by rfl, ?_⟩) (by assumption) ?_
  rotate_left
  · intro W hSw
    (try dsimp only at hSw)
    go_simp
    rfl
  (try simp only [Act.put, List.getElem_toArray, List.getElem_cons_succ, List.getElem_cons_zero, List.setIfInBounds_toArray, List.set_cons_zero, List.set_cons_succ])
  refine wpAnyH_take (i := 3) (oi := _) (v := ?_) rfl (by kernel_rfl) (by kernel_rfl) (by kernel_rfl) (fun _ _ _ h => h) (Or.inl ⟨by rfl, ?_⟩) (by assumption) ?_
  rotate_left
  · intro W hSw
    (try dsimp only at hSw)
    go_simp
    rfl
  (try simp only [Act.put, List.getElem_toArray, List.getElem_cons_succ, List.getElem_cons_zero, List.setIfInBounds_toArray, List.set_cons_zero, List.set_cons_succ])
  refine wpAnyH_take (i := 4) (oi := _) (v := ?_) rfl (by kernel_rfl) (by kernel_rfl) (by kernel_rfl) (fun _ _ _ h => h) (Or.inl ⟨by rfl, ?_⟩) (by assumption) ?_
  rotate_left
  · intro W hSw
    (try dsimp only at hSw)
    go_simp
    rfl
  (try simp only [Act.put, List.getElem_toArray, List.getElem_cons_succ, List.getElem_cons_zero, List.setIfInBounds_toArray, List.set_cons_zero, List.set_cons_succ])
  refine wpAnyH_take (i := 5) (oi := _) (v := ?_) rfl (by kernel_rfl) (by kernel_rfl) (by kernel_rfl) (fun _ _ _ h => h) (Or.inl ⟨by rfl, ?_⟩) (by assumption) ?_
  rotate_left
  · intro W hSw
    (try dsimp only at hSw)
    go_simp
    rfl
  (try simp only [Act.put, List.getElem_toArray, List.getElem_cons_succ, List.getElem_cons_zero, List.setIfInBounds_toArray, List.set_cons_zero, List.set_cons_succ])
  refine wpAnyH_take (i := 6) (oi := _) (v := ?_) rfl (by kernel_rfl) (by kernel_rfl) (by kernel_rfl) (fun _ _ _ h => h) (Or.inl ⟨by rfl, ?_⟩) (by assumption) ?_
  rotate_left
  · intro W hSw
    (try dsimp only at hSw)
    go_simp
    rfl
  (try simp only [Act.put, List.getElem_toArray, List.getElem_cons_succ, List.getElem_cons_zero, List.setIfInBounds_toArray, List.set_cons_zero, List.set_cons_succ])
  refine wpAnyH_take (i := 7) (oi := _) (v := ?_) rfl (by kernel_rfl) (by kernel_rfl) (by kernel_rfl) (fun _ _ _ h => h) (Or.inl ⟨by rfl, ?_⟩) (by assumption) ?_
  rotate_left
  · intro W hSw
    (try dsimp only at hSw)
    go_simp
    rfl
  (try simp only [Act.put, List.getElem_toArray, List.getElem_cons_succ, List.getElem_cons_zero, List.setIfInBounds_toArray, List.set_cons_zero, List.set_cons_succ])
  refine wpAnyH_take (i := 8) (oi := _) (v := ?_) rfl (by kernel_rfl) (by kernel_rfl) (by kernel_rfl) (fun _ _ _ h => h) (Or.inl ⟨by rfl, ?_⟩) (by assumption) ?_
  rotate_left
  · intro W hSw
    (try dsimp only at hSw)
    go_simp
    rfl
  (try simp only [Act.put, List.getElem_toArray, List.getElem_cons_succ, List.getElem_cons_zero, List.setIfInBounds_toArray, List.set_cons_zero, List.set_cons_succ])
  refine wpAnyH_take (i := 9) (oi := _) (v := ?_) rfl (by kernel_rfl) (by kernel_rfl) (by kernel_rfl) (fun _ _ _ h => h) (Or.inl ⟨by rfl, ?_⟩) (by assumption) ?_
  rotate_left
  · intro W hSw
    (try dsimp only at hSw)
    go_simp
    rfl
  (try simp only [Act.put, List.getElem_toArray, List.getElem_cons_succ, List.getElem_cons_zero, List.setIfInBounds_toArray, List.set_cons_zero, List.set_cons_succ])
  refine wpAnyH_take (i := 10) (oi := _) (v := ?_) rfl (by kernel_rfl) (by kernel_rfl) (by kernel_rfl) (fun _ _ _ h => h) (Or.inl ⟨by rfl, ?_⟩) (by assumption) ?_
  rotate_left
  · intro W hSw
    (try dsimp only at hSw)
    go_simp
    rfl
  (try simp only [Act.put, List.getElem_toArray, List.getElem_cons_succ, List.getElem_cons_zero, List.setIfInBounds_toArray, List.set_cons_zero, List.set_cons_succ])
  refine wpAnyH_take (i := 11) (oi := _) (v := ?_) rfl (by kernel_rfl) (by kernel_rfl) (by kernel_rfl) (fun _ _ _ h => h) (Or.inl ⟨by rfl, ?_⟩) (by assumption) ?_
  rotate_left
  · intro W hSw
    (try dsimp only at hSw)
    go_simp
    rfl
  (try simp only [Act.put, List.getElem_toArray, List.getElem_cons_succ, List.getElem_cons_zero, List.setIfInBounds_toArray, List.set_cons_zero, List.set_cons_succ])
  refine wpAnyH_take (i := 12) (oi := _) (v := ?_) rfl (by kernel_rfl) (by kernel_rfl) (by kernel_rfl) (fun _ _ _ h => h) (Or.inl ⟨by rfl, ?_⟩) (by assumption) ?_
  rotate_left
  · intro W hSw
    (try dsimp only at hSw)
    go_simp
    rfl
  (try simp only [Act.put, List.getElem_toArray, List.getElem_cons_succ, List.getElem_cons_zero, List.setIfInBounds_toArray, List.set_cons_zero, List.set_cons_succ])
  refine wpAnyH_take (i := 13) (oi := _) (v := ?_) rfl (by kernel_rfl) (by kernel_rfl) (by kernel_rfl) (fun _ _ _ h => h) (Or.inl ⟨by rfl, ?_⟩) (by assumption) ?_
  rotate_left
  · intro W hSw
    (try dsimp only at hSw)
    go_simp
    rfl
  (try simp only [Act.put, List.getElem_toArray, List.getElem_cons_succ, List.getElem_cons_zero, List.setIfInBounds_toArray, List.set_cons_zero, List.set_cons_succ])
  refine wpAnyH_take (i := 14) (oi := _) (v := ?_) rfl (by kernel_rfl) (by kernel_rfl) (by kernel_rfl) (fun _ _ _ h => h) (Or.inl ⟨by rfl, ?_⟩) (by assumption) ?_
  rotate_left
  · intro W hSw
    (try dsimp only at hSw)
    go_simp
    rfl
  (try simp only [Act.put, List.getElem_toArray, List.getElem_cons_succ, List.getElem_cons_zero, List.setIfInBounds_toArray, List.set_cons_zero, List.set_cons_succ])
  refine wpAnyH_take (i := 15) (oi := _) (v := ?_) rfl (by kernel_rfl) (by kernel_rfl) (by kernel_rfl) (fun _ _ _ h => h) (Or.inl ⟨by rfl, ?_⟩) (by assumption) ?_
  rotate_left
  · intro W hSw
    (try dsimp only at hSw)
    go_simp
    rfl
  (try simp only [Act.put, List.getElem_toArray, List.getElem_cons_succ, List.getElem_cons_zero, List.setIfInBounds_toArray, List.set_cons_zero, List.set_cons_succ])
  refine wpAnyH_take (i := 16) (oi := _) (v := ?_) rfl (by kernel_rfl) (by kernel_rfl) (by kernel_rfl) (fun _ _ _ h => h) (Or.inl ⟨by rfl, ?_⟩) (by assumption) ?_
  rotate_left
  · intro W hSw
    (try dsimp only at hSw)
    go_simp
    rfl
  (try simp only [Act.put, List.getElem_toArray, List.getElem_cons_succ, List.getElem_cons_zero, List.setIfInBounds_toArray, List.set_cons_zero, List.set_cons_succ])
  refine wpAnyH_take (i := 17) (oi := _) (v := ?_) rfl (by kernel_rfl) (by kernel_rfl) (by kernel_rfl) (fun _ _ _ h => h) (Or.inl ⟨by rfl, ?_⟩) (by assumption) ?_
  rotate_left
  · intro W hSw
    (try dsimp only at hSw)
    go_simp
    rfl
  (try simp only [Act.put, List.getElem_toArray, List.getElem_cons_succ, List.getElem_cons_zero, List.setIfInBounds_toArray, List.set_cons_zero, List.set_cons_succ])
  refine wpAnyH_take (i := 18) (oi := _) (v := ?_) rfl (by kernel_rfl) (by kernel_rfl) (by kernel_rfl) (fun _ _ _ h => h) (Or.inl ⟨by rfl, ?_⟩) (by assumption) ?_
  rotate_left
  · intro W hSw
    (try dsimp only at hSw)
    go_simp
    rfl
  (try simp only [Act.put, List.getElem_toArray, List.getElem_cons_succ, List.getElem_cons_zero, List.setIfInBounds_toArray, List.set_cons_zero, List.set_cons_succ])
  refine wpAnyH_take (i := 19) (oi := _) (v := ?_) rfl (by kernel_rfl) (by kernel_rfl) (by kernel_rfl) (fun _ _ _ h => h) (Or.inl ⟨by rfl, ?_⟩) (by assumption) ?_
  rotate_left
  · intro W hSw
    (try dsimp only at hSw)
    go_simp
    rfl
  (try simp only [Act.put, List.getElem_toArray, List.getElem_cons_succ, List.getElem_cons_zero, List.setIfInBounds_toArray, List.set_cons_zero, List.set_cons_succ])
  refine wpAnyH_take (i := 20) (oi := _) (v := ?_) rfl (by kernel_rfl) (by kernel_rfl) (by kernel_rfl) (fun _ _ _ h => h) (Or.inl ⟨by rfl, ?_⟩) (by assumption) ?_
  rotate_left
  · intro W hSw
    (try dsimp only at hSw)
    go_simp
    rfl
  (try simp only [Act.put, List.getElem_toArray, List.getElem_cons_succ, List.getElem_cons_zero, List.setIfInBounds_toArray, List.set_cons_zero, List.set_cons_succ])
  refine wpAnyH_ready (rs := [21]) (by kernel_rfl) (by simp) ?_
  refine AllReadyH.cons (o := _) rfl (fun K hK => ?_) AllReadyH.nil
  go_simp
  refine (slot_any ep _ hepl).mono ?_
  rintro e w3 ⟨rfl, hb3⟩
  rw [HST.out]
  have hb3' := undrew hb3
  have HB3 := Lib.hid (HB.out.below hb3' HB.out.lt)
  have HL3 := Lib.hid (HL.out.below hb3')
  have H3 := Lib.hid (H.out.below hb3')
  have O3 := Lib.hid (Only.of_below (a := w) hb3' (lF gl g v))
  have KF3 : Hid (Kinds (lF gl g v) w3 _) := lF_kinds H3.out HL3.out
  clear hb3 hb3'
  go_wp2_with fail
  refine hK.out _ _ ⟨HB3.out.cell 0, HL3.out.blk.cell 0, HL3.out.blk.cell 1, HL3.out.blk.cell 3⟩ (fun hHeld3 => ?_)
  clear hK K
  (try simp only [Act.put, List.getElem_toArray, List.getElem_cons_succ, List.getElem_cons_zero, List.setIfInBounds_toArray, List.set_cons_zero, List.set_cons_succ])
  refine wpAnyH_ready (rs := [22]) (by kernel_rfl) (by simp) ?_
  refine AllReadyH.cons (o := _) rfl (fun K hK => ?_) AllReadyH.nil
  go_simp
  rw [← HST.out]
  refine (wwrite_any g v d rd p (Pl.slotText ep) _ H3.out HPL.out (slot_len _)).mono ?_
  rintro e w4 ⟨⟨hal, rfl⟩ | ⟨hal, rfl⟩, h4, ho4⟩
  · have H4 := Lib.hid h4
    have HL4 := Lib.hid (HL3.out.only ho4 H3.out.kinds (by decide))
    have HB4 := Lib.hid (ho4.blk_ H3.out.kinds HB3.out (by decide))
    have O4 := Lib.hid (O3.out.trans' (ho4.mono (fun _ _ => dF_lF)))
    have R4 := Lib.hid (Pl.run_go (c := .wr p (Pl.slotText ep)) (Pl.Dk.run_nil d) hal)
    clear h4 ho4 hal
    go_wp2_with fail
    refine hK.out _ _ ⟨HB4.out.cell 0, HL4.out.blk.cell 0, HL4.out.blk.cell 1, HL4.out.blk.cell 3⟩ (fun _ => ?_)
    refine wpAnyH_done (by kernel_rfl) ?_ _
    clear hK K hHeld hHeld3
    obtain ⟨a0, a1, a2, a3, a4, a5, a6, b0, b1, b2, b3, b4, b5, b6⟩ := facts7 HL4.out.blk
    obtain ⟨cB, _⟩ := facts1 HB4.out
    go_wp2_with fail
    refine (wsync_any g v _ rd _ H4.out).mono ?_
    rintro e w5 ⟨⟨hal, rfl⟩ | ⟨hal, rfl⟩, h5, ho5⟩
    · have H5 := Lib.hid h5
      have hl5 := HL4.out.only ho5 H4.out.kinds (by decide)
      have HB5 := Lib.hid (ho5.blk_ H4.out.kinds HB4.out (by decide))
      have O5 := Lib.hid (O4.out.trans' (ho5.mono (fun _ _ => dF_lF)))
      have R5 := Lib.hid (Pl.run_go (c := .sy) R4.out hal)
      have HL5 := Lib.hid hl5
      clear h5 ho5 hal a0 a1 a2 a3 a4 a5 a6 b0 b1 b2 b3 b4 b5 b6 cB hl5
      obtain ⟨a0, a1, a2, a3, a4, a5, a6, b0, b1, b2, b3, b4, b5, b6⟩ := facts7 HL5.out.blk
      obtain ⟨cB, _⟩ := facts1 HB5.out
      have hne : bl ≠ gl := HB5.out.ne HL5.out.blk (by decide)
      go_wp2_with fail
      go_end0
      have ho6 : Only (· = gl) w5 (((w5.setCell ⟨gl, 3, none⟩ (.int .u64 ep)).setCell ⟨gl, 4, none⟩ (.int .i64 0)).setCell ⟨gl, 5, none⟩ (.slice none 0 0)) :=
        (((Only.refl (· = gl) w5).setCell (p := ⟨gl, 3, none⟩) (.inl rfl) _).setCell (p := ⟨gl, 4, none⟩) (.inl rfl) _).setCell (p := ⟨gl, 5, none⟩) (.inl rfl) _
      have hk6 : Kinds (· = gl) w5 [125] := by
        rintro k rfl
        exact ⟨_, by simp, HL5.out.blk.typ⟩
      refine Reset1Post.good ?_ (H5.out.only ho6 (fun k hk e => ?_)) ⟨?_, ?_⟩ (O5.out.trans ho6 (fun _ _ h => .inr h))
      · have := R5.out
        rw [HP.out, HQ.out, HEP.out] at this
        rw [HP.out, HQ.out, HEP.out]
        exact this
      · obtain ⟨t, h1, h2⟩ := H5.out.kinds k hk
        have := h2.uniq (e ▸ HL5.out.blk.typ)
        subst this
        revert h1
        decide
      · have := ((HL5.out.blk.set_ 3 (.int .u64 ep)).set_ 4 (.int .i64 0)).set_ 5 (.slice none 0 0)
        rw [HEP.out] at this ⊢
        exact this
      · have := HSM.out
        exact ⟨this.1, Nat.zero_le _, by show l.epoch + 1 < _; rw [← HEP.out]; exact hepl⟩
    · have H5 := Lib.hid h5
      have HL5 := Lib.hid (HL4.out.only ho5 H4.out.kinds (by decide))
      have O5 := Lib.hid (O4.out.trans' (ho5.mono (fun _ _ => dF_lF)))
      have HAL := Lib.hid hal
      clear h5 ho5 hal
      unfold died
      go_wp2_with fail
      refine ⟨rfl, Reset1Post.stop ?_ H5.out HL5.out O5.out⟩
      have := Pl.run_stop [] R4.out HAL.out (c := .sy)
      rw [HP.out, HQ.out, HEP.out] at this ⊢
      exact this
  · have H4 := Lib.hid h4
    have HL4 := Lib.hid (HL3.out.only ho4 H3.out.kinds (by decide))
    have O4 := Lib.hid (O3.out.trans' (ho4.mono (fun _ _ => dF_lF)))
    have HAL := Lib.hid hal
    clear h4 ho4 hal
    unfold died
    go_wp2_with fail
    refine ⟨rfl, Reset1Post.stop ?_ H4.out HL4.out O4.out⟩
    have := Pl.run_stop [.sy] (Pl.Dk.run_nil d) HAL.out (c := .wr p (Pl.slotText ep))
    rw [HP.out, HQ.out, HEP.out] at this ⊢
    exact this
end Go.Proofs.YtljmklohgpaopaaDoor
