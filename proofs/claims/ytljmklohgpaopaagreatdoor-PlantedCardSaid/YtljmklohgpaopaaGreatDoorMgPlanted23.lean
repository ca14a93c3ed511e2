/- A tree: Save. A tree: Save, plain's. A tree: Create. -/
import Derived.Test.YtljmklohgpaopaaGreatDoorMgPlanted22
import Derived.BigQuiet
import Derived.Lib.Builder
import Derived.Test.YtljmklohgpaopaaGreatDoorMgPlanted21
set_option linter.unusedVariables false
set_option linter.unusedSimpArgs false

namespace Go.Proofs.YtljmklohgpaopaaGreatDoor
open Go.RowKit
set_option linter.unusedSectionVars false
variable [Inhabited LoT]

/-- What a save that was guarded leaves. -/
def SvK (E : TEnv) (rd : Int) (G : Gh) (h : Nat) (t : Pl.Tr h) (js : List Nat) (b : Bool) (w : World) (k : Nat) (w' : World) : Prop :=
  SFr saveT2 w w' ∧ Gk w w' ∧
  ((k = 0 ∧ E.m.saved = some E.m.root ∧ TW E w' rd G ∧ ∀ r a v, RefAt w r a v → RefAt w' r a v) ∨
   (k = 3 ∧ TmAt w' E.gT { E.m with bad := b } ∧ ∃ l d' rd', FreeW E.m.first js l ∧ (E.d.life = 0 ∧ d' = E.d ∨ E.d.run l = (d', false)) ∧ DiskAt w' E.m.g E.vD d' rd') ∨
   ∃ l d1 d2 ok s rd', FreeW E.m.first js l ∧ E.d.run (l ++ [.sy]) = (d1, true) ∧ Pl.OnD (fun j => d1.look (E.m.first + j)) E.m.n h s t ∧
     d1.run [.wr (E.m.first + (E.m.seq + 1) % 2) (slotT (E.m.seq + 1) (Pl.top h s) (Pl.dcount E.m.n (Pl.secsOf h s))), .sy] = (d2, ok) ∧ k = (if ok then 0 else 3) ∧ DiskAt w' E.m.g E.vD d2 rd' ∧ (ok = false → TmAt w' E.gT { E.m with bad := b }) ∧
     (ok = true → ∃ S' G' v, TW (E.sv d2 S' (Pl.dcount E.m.n (Pl.secsOf h s))) w' rd' G' ∧ Ext G G' ∧ RdK 100000 rd rd' ∧ RefAt w' E.m.root (Pl.top h s) v ∧ ∀ j ∈ Pl.secsOf h s, j ∈ S'))
theorem SvPost.q {E : TEnv} {rd : Int} {G : Gh} {h : Nat} {t : Pl.Tr h} {js : List Nat} {w w' : World} {e : Ending} (hb : E.m.bad = false) (hp : SvPost E rd G h t js w e w') : ∃ k, TEndK k e ∧ SvK E rd G h t js false w k w' := by
  obtain ⟨h0, h1, ⟨rfl, h2, h3⟩ | ⟨l, d1, d2, ok, s, rd', h2, h3, h4, h5, h6, h7, h8, h9⟩⟩ := hp
  · exact ⟨3, .inr ⟨by omega, by omega, rfl⟩, h0, h1, .inr (.inl ⟨rfl, by rw [Tm.eta hb]; exact h2, h3⟩)⟩
  · refine ⟨if ok then 0 else 3, ?_, h0, h1, .inr (.inr ⟨l, d1, d2, ok, s, rd', h2, h3, h4, h5, rfl, h7, fun ho => by rw [Tm.eta hb]; exact h8 ho, h9⟩)⟩
    rcases h6 with ⟨rfl, rfl⟩ | ⟨rfl, rfl⟩
    · exact .inl ⟨rfl, rfl⟩
    · exact .inr ⟨by decide, by decide, rfl⟩
theorem SvK.tree {E : TEnv} {rd : Int} {G : Gh} {h : Nat} {t : Pl.Tr h} {js : List Nat} {w w' : World} {k : Nat} (hb : E.m.bad = false) (hp : SvK E rd G h t js false w k w') : ∃ m : Tm, m.bad = false ∧ TmAt w' E.gT m := by
  obtain ⟨_, _, ⟨_, _, h2⟩ | ⟨_, h2, _⟩ | ⟨l, d1, d2, ok, s, rd', _, _, _, _, _, _, h8, h9⟩⟩ := hp
  · exact ⟨_, hb, h2.1.tree⟩
  · exact ⟨_, rfl, h2⟩
  · cases ok
    · exact ⟨_, rfl, h8 rfl⟩
    · obtain ⟨S', G', v, h10, _⟩ := h9 rfl
      exact ⟨(E.sv d2 S' _).m, hb, h10.tree⟩
theorem SFr.since2 {ts : List TypeId} {F : Nat → Prop} {w a b : World} (h : SFr ts w a) (k : Only F a b) (hF : ∀ x, x < w.heap.size → F x → ∃ t, Typ w x t ∧ t ∈ ts) : SFr ts w b := by
  obtain ⟨F', h1, h2⟩ := h
  exact ⟨fun x => F' x ∨ (x < w.heap.size ∧ F x), (h1.mono (fun x _ hx => .inl hx)).trans k (fun x hx hf => .inr ⟨hx, hf⟩), fun x t ht hn hx => by
    rcases hx with hx | ⟨hl, hx⟩
    · exact h2 x t ht hn hx
    · obtain ⟨t', g1, g2⟩ := hF x hl hx
      exact hn (ht.uniq g1 ▸ g2)⟩
/-- Behind do. -/
theorem SvK.done {E : TEnv} {rd : Int} {G : Gh} {h : Nat} {t : Pl.Tr h} {js : List Nat} {w w' w'' : World} {k : Nat} (hT : TmAt w E.gT E.m) (hlo : LO ≤ E.gT) (hb : E.m.bad = false) (he : Blk w' w.heap.size 83 [.nilIface]) (hp : SvK E rd G h t js false (w.alloc (.cells #[.nilIface] 83)) k w')
    (ho : Only (fun b => b = w.heap.size ∨ b = E.gT) w' w'') (ht : ∀ c0 c1 c2 c3 c4 c5 c6 c7, Blk w' E.gT 158 [c0, c1, c2, c3, c4, c5, c6, c7] → Blk w'' E.gT 158 [c0, c1, c2, c3, c4, c5, c6, .bool (k == 3)]) : SvK E rd G h t js true w k w'' := by
  obtain ⟨m, hm, hmt⟩ := hp.tree hb
  have hk : Kinds (fun b => b = w.heap.size ∨ b = E.gT) w' [83, 158] := by
    rintro b (rfl | rfl)
    · exact ⟨_, by simp, he.typ⟩
    · exact ⟨_, by simp, hmt.typ⟩
  have hal : Below w.heap.size w (w.alloc (.cells #[.nilIface] 83)) := (Below.refl _ _).alloc (Nat.le_refl _) _
  have htt : ∀ m' : Tm, TmAt w' E.gT m' → TmAt w'' E.gT { m' with bad := (k == 3) } := fun m' hm' => ht _ _ _ _ _ _ _ _ hm'
  have hgk : Gk w' w'' := Gk.ofF (fun b hb' => by
    rcases hb' with rfl | rfl
    · exact ⟨Nat.le_trans hlo (Nat.le_of_lt hT.lt), _, _, _, he, rfl⟩
    · exact ⟨hlo, _, _, _, hmt, rfl⟩) ho
  obtain ⟨h0, h1, h2⟩ := hp
  refine ⟨((SFr.of_below hal).trans h0).since2 ho (fun x hx hf => ?_), ((Gk.of_below hal).trans h1).trans hgk, ?_⟩
  · rcases hf with e | e
    · omega
    · exact ⟨_, e ▸ hT.typ, by simp [saveT2]⟩
  · rcases h2 with ⟨rfl, h3, h4⟩ | ⟨rfl, h3, l, d', rd', h4, h5, h6⟩ | ⟨l, d1, d2, ok, s, rd', h3, h4, h5, h6, rfl, h8, h9, h10⟩
    · refine .inl ⟨rfl, h3, h4.1.do ho hk ?_, fun r a v hr => ho.blk_ hk (h4.2 r a v (hr.below hal hr.lt)) (by decide)⟩
      have := htt _ h4.1.tree
      rwa [show ((0 : Nat) == 3) = false from rfl, Tm.eta hb] at this
    · exact .inr (.inl ⟨rfl, htt { E.m with bad := false } h3, l, d', rd', h4, h5, h6.only_ ho hk (by decide) (by decide)⟩)
    · refine .inr (.inr ⟨l, d1, d2, ok, s, rd', h3, h4, h5, h6, rfl, h8.only_ ho hk (by decide) (by decide), fun e => ?_, fun e => ?_⟩)
      · subst e
        exact htt { E.m with bad := false } (h9 rfl)
      · subst e
        obtain ⟨S', G', v, k1, k2, k3, k4, k5⟩ := h10 rfl
        refine ⟨S', G', v, k1.do ho hk ?_, k2, k3, ho.blk_ hk k4 (by decide), k5⟩
        have := htt _ k1.tree
        rwa [show ((if true = true then (0 : Nat) else 3) == 3) = false from rfl, Tm.eta (m := (E.sv d2 S' _).m) hb] at this
theorem SavedAt.below {E : TEnv} {w w' : World} {G : Gh} {js : List Nat} (h : SavedAt E w G js) (hb : Below w.heap.size w w') : SavedAt E w' G js := by
  rcases h with h | ⟨rs, hs, ts, ss, v, h1, h2, h3, h4, h5, h6, h7, h8⟩
  · exact .inl h
  · exact .inr ⟨rs, hs, ts, ss, v, h1, h2, h3, h4, h5.below hb h5.lt, h6, h7, h8⟩
theorem SvIn.below {E : TEnv} {w w' : World} {rd : Int} {G : Gh} {h : Nat} {t : Pl.Tr h} {fr : Nat} {js : List Nat} (s : SvIn E w rd G h t fr js) (hb : Below w.heap.size w w') : SvIn E w' rd G h t fr js :=
  ⟨s.tw.below hb, s.root, s.ok, s.hh, FrN.u (fun v pg hp => hp.below hb) (UFr.of_below hb).2.1 h t _ _ s.fresh, s.fit, s.n, s.saved.below hb, s.ev.tfr (TFr.of_below hb), s.S, s.len, s.seq, s.pg⟩
theorem SvK.before {E : TEnv} {rd : Int} {G : Gh} {h : Nat} {t : Pl.Tr h} {js : List Nat} {b : Bool} {w0 w w' : World} {k : Nat} (hp : SvK E rd G h t js b w k w') (hb : Below w0.heap.size w0 w) : SvK E rd G h t js b w0 k w' :=
  ⟨(SFr.of_below hb).trans hp.1, (Gk.of_below hb).trans hp.2.1, hp.2.2.imp (fun h => ⟨h.1, h.2.1, h.2.2.1, fun r a v hr => h.2.2.2 r a v (hr.below hb hr.lt)⟩) id⟩
theorem neq_ref (a b : Nat) (w : World) (ha : ∃ x v, RefAt w a x v) (hb : ∃ x v, RefAt w b x v) : (binOp BinOp.neq 156 (.pointer (some ⟨a, 0, none⟩)) (.pointer (some ⟨b, 0, none⟩))).run Tryz.prog w = .ok (.bool (decide (a ≠ b))) w := by
  obtain ⟨j, hj, hs⟩ : ∃ j, Tryz.prog.info? 168 = some j ∧ j.size ≠ 0 := by
    have h : (Tryz.prog.info? 168).map (fun i => decide (i.size ≠ 0)) = some true := by kernel_rfl
    cases hx : Tryz.prog.info? 168 with
    | none => rw [hx] at h; cases h
    | some j =>
      rw [hx] at h
      exact ⟨j, rfl, of_decide_eq_true (Option.some.inj h)⟩
  by_cases he : a = b
  · subst he
    rw [Lib.run_neq_ptr_same w _ Tryz.underlying156 hj]
    simp
  · obtain ⟨x, v, ha⟩ := ha
    obtain ⟨y, u, hb⟩ := hb
    have hne : (⟨a, 0, none⟩ : Addr) ≠ ⟨b, 0, none⟩ := fun e => he (by injection e)
    have h : ∀ d : Nat, (Op.equalIn (d + 1) 156 (.pointer (some ⟨a, 0, none⟩)) (.pointer (some ⟨b, 0, none⟩))).run Tryz.prog w = .ok false w := fun d => by
      simp [Op.equalIn, run_underlying Tryz.underlying156, sizeOf, typeInfo, hj, hs, run_sameAddr_other w hne ha hb]
    simp only [binOp]
    simp [Op.equal, Op.maxDepth, h 9999, he]
theorem enters_save1 (caps : Array Value) (W : World) : (callFunc 93 caps).run Tryz.prog W = .ok (.enter 93 caps) W := by simp [go_sem]
set_option maxRecDepth 100000 in
set_option maxHeartbeats 4000000 in
theorem save1_any (E : TEnv) (gt : Nat) (h : Nat) (t : Pl.Tr h) (fr : Nat) (js : List Nat) (w : World) (rd : Int) (G : Gh) (hin : SvIn E w rd G h t fr js) (hbad : E.m.bad = false) (ht : Blk w gt 45 [.pointer (some ⟨E.gT, 0, none⟩)]) :
    Calls Tryz.prog 93 #[.pointer (some ⟨gt, 0, none⟩)] w fun e w' => ∃ k, TEndK k e ∧ SvK E rd G h t js false w k w' := by
  have hdn : ∀ n : Nat, Below w.heap.size w (w.drewN n) := fun n => ((Only.refl (fun _ => False) w).drewN n).toBelow (Nat.le_refl _) (fun _ _ => id)
  have HS := Lib.hid (fun n : Nat => save_any E h t fr js (w.drewN n) rd G (hin.below (hdn n)))
  have HDN := Lib.hid hdn
  have hT := hin.tw.tree
  have c0 : w.cell? ⟨gt, 0, none⟩ = some (.pointer (some ⟨E.gT, 0, none⟩)) := ht.cell 0
  have c3 : w.cell? ⟨E.gT, 3, none⟩ = some (refV E.m.root) := hT.cell 3
  have c4 : w.cell? ⟨E.gT, 4, none⟩ = some (refO E.m.saved) := hT.cell 4
  have HW := Lib.hid hin.tw
  have HB := Lib.hid hbad
  have hrr : ∃ x v, RefAt w E.m.root x v := (hin.tw.inv _ _ _ hin.root).blk
  obtain ⟨sv, hsv⟩ : ∃ x, refO E.m.saved = x := ⟨_, rfl⟩
  obtain ⟨L, hL⟩ : ∃ L : Bool, decide (E.m.saved ≠ some E.m.root) = L := ⟨_, rfl⟩
  have hbop : ∀ n : Nat, (binOp BinOp.neq 156 (.pointer (some ⟨E.m.root, 0, none⟩)) sv).run Tryz.prog (w.drewN n) = .ok (.bool L) (w.drewN n) := fun n => by
    rw [← hsv, ← hL]
    rcases hin.saved with ⟨g1, _, _⟩ | ⟨rs, hs, ts, ss, v, g1, _, _, _, g5, _, _, _⟩
    · rw [g1]
      simp [refO, go_sem]
    · rw [g1]
      have := neq_ref E.m.root rs (w.drewN n) hrr ⟨_, _, g5⟩
      unfold refO refV
      rw [this]
      congr 2
      simp [eq_comm]
  have hgrd : ∀ W : World, (eqGuard BinOp.neq 156 (Operand.tmp 4) (Operand.tmp 8) (.pointer (some ⟨E.m.root, 0, none⟩)) sv).run Tryz.prog W = .ok () W := fun W => by
    rw [← hsv]
    cases E.m.saved <;> simp [refO, refV, go_sem]
  unfold refV at c3
  rw [hsv] at c4
  have HL := Lib.hid hL
  clear hin hT ht hbad hsv hrr hL hdn
  cases L
  · have HE : Hid (E.m.saved = some E.m.root) := by
      have := of_decide_eq_false HL.out
      rw [Hid]
      exact Classical.byContradiction this
    go_enter Tryz.func93, Tryz.ntmps93
    go_wp2_with fail
    go_quiet (fail)
    go_wp2_with fail
    go_end0
    exact ⟨0, .inl ⟨rfl, rfl⟩, SFr.of_below (HDN.out _), Gk.of_below (HDN.out _), .inl ⟨rfl, HE.out, HW.out.below (HDN.out _), fun r a v hr => hr.below (HDN.out _) hr.lt⟩⟩
  · go_enter Tryz.func93, Tryz.ntmps93
    go_wp2_with fail
    go_quiet (fail)
    go_wp2_with fail
    refine (HS.out _).mono ?_
    rintro e w1 h1
    obtain ⟨k, hk, hq⟩ := h1.q HB.out
    have HQ := Lib.hid (hq.before (HDN.out _))
    clear h1 hq
    rcases hk with ⟨rfl, rfl⟩ | ⟨hk1, hk2, rfl⟩
    · go_wp2_with fail
      go_end0
      exact ⟨0, .inl ⟨rfl, rfl⟩, HQ.out⟩
    · have HK := Lib.hid (And.intro hk1 hk2)
      clear hk1 hk2
      unfold tdied
      go_wp2_with fail
      exact ⟨rfl, k, .inr ⟨HK.out.1, HK.out.2, rfl⟩, HQ.out⟩
end Go.Proofs.YtljmklohgpaopaaGreatDoor

namespace Go.Proofs.YtljmklohgpaopaaGreatDoor
open Go.RowKit
set_option linter.unusedSectionVars false
variable [Inhabited LoT]

set_option maxRecDepth 100000 in
set_option maxHeartbeats 4000000 in
theorem tsave_any (E : TEnv) (h : Nat) (t : Pl.Tr h) (fr : Nat) (js : List Nat) (w : World) (rd : Int) (G : Gh) (hin : SvIn E w rd G h t fr js) (hbad : E.m.bad = false) :
    Calls Tryz.prog 47 #[.pointer (some ⟨E.gT, 0, none⟩)] w fun e w' => ∃ k, e = .returned (errK k) ∧ SvK E rd G h t js true w k w' := by
  obtain ⟨gt, hgt⟩ : ∃ g, w.heap.size = g := ⟨_, rfl⟩
  obtain ⟨w1, hw1⟩ : ∃ x, w.alloc (.cells #[.pointer (some ⟨E.gT, 0, none⟩)] 45) = x := ⟨_, rfl⟩
  have hb1 : Below w.heap.size w w1 := by rw [← hw1]; exact (Below.refl _ _).alloc (Nat.le_refl _) _
  have B1 : Blk w1 gt 45 [.pointer (some ⟨E.gT, 0, none⟩)] := by rw [← hw1, ← hgt]; exact Blk.new w 45 _
  have hin1 := hin.below hb1
  have HDO : Hid (Calls Tryz.prog 89 #[.pointer (some ⟨E.gT, 0, none⟩), .func (.func 93) #[] #[.pointer (some ⟨gt, 0, none⟩)]] w1 fun e w' => ∃ k, e = .returned (errK k) ∧ SvK E rd G h t js true w1 k w') := by
    obtain ⟨W1, hW1⟩ : ∃ x, w1.alloc (.cells #[.nilIface] 83) = x := ⟨_, rfl⟩
    have hbe : Below w1.heap.size w1 W1 := by rw [← hW1]; exact (Below.refl _ _).alloc (Nat.le_refl _) _
    have he : Blk W1 w1.heap.size 83 [.nilIface] := by rw [← hW1]; exact Blk.new w1 83 _
    have hp := save1_any E gt h t fr js W1 rd G (hin1.below hbe) hbad (B1.below hbe B1.lt)
    have hd := tdo_any E.gT E.m 93 #[.pointer (some ⟨gt, 0, none⟩)] w1 hin1.tw.tree hbad (fun k w' => Blk w' w1.heap.size 83 [.nilIface] ∧ SvK E rd G h t js false W1 k w') (enters_save1 _)
      (fun k w' hq => by
        obtain ⟨m, hm, ht⟩ := hq.2.tree hbad
        obtain ⟨m0, m1, m2, m3, m4, m5, m6, m7⟩ := m
        dsimp only at hm
        subst hm
        exact ⟨_, _, _, _, _, _, _, ht⟩)
      (by
        rw [hW1]
        exact hp.mono fun e w' hc => by
          obtain ⟨k, hk, hq⟩ := hc
          have hbk := hq.1.blk he (by decide)
          exact ⟨hbk, k, hk, hbk, hq⟩)
    refine hd.mono ?_
    rintro e w'' ⟨k, w', ⟨hbk, hq⟩, he', ho, hx⟩
    rw [← hW1] at hq
    exact ⟨k, he', hq.done hin1.tw.tree hin1.tw.low.t hbad hbk ho hx⟩
  have HB1 := Lib.hid hb1
  have d0 : w1.cell? ⟨gt, 0, none⟩ = some (.pointer (some ⟨E.gT, 0, none⟩)) := B1.cell 0
  have hmf : ∀ (fn : Fn) (first cap : Array Value) (w : World), (Instr.makeFunc fn first cap).run Tryz.prog w = .ok (.func fn first cap) w := fun _ _ _ _ => rfl
  clear hin hin1 hb1 B1 hbad
  go_enter Tryz.func47, Tryz.ntmps47
  go_wp2_with fail
  refine HDO.out.mono ?_
  rintro e w' ⟨k, rfl, hq⟩
  have HQ := Lib.hid (hq.before HB1.out)
  clear hq
  go_wp2_with fail
  go_ret
  exact ⟨k, rfl, HQ.out⟩
theorem SvK.kind {E : TEnv} {rd : Int} {G : Gh} {h : Nat} {t : Pl.Tr h} {js : List Nat} {b : Bool} {w w' : World} {k : Nat} (hp : SvK E rd G h t js b w k w') : k ≤ 3 := by
  obtain ⟨_, _, ⟨e, _⟩ | ⟨e, _⟩ | ⟨l, d1, d2, ok, s, rd', _, _, _, _, e, _⟩⟩ := hp
  · omega
  · omega
  · subst e; cases ok <;> decide
theorem SvK.only {E : TEnv} {rd : Int} {G : Gh} {h : Nat} {t : Pl.Tr h} {js : List Nat} {b : Bool} {w w' w'' : World} {k : Nat} {F : Nat → Prop} (hp : SvK E rd G h t js b w k w') (ho : Only F w' w'') (hk : Kinds F w' [28]) (hF : ∀ x, x < w.heap.size → ¬ F x) (hg : Gk w' w'') : SvK E rd G h t js b w k w'' := by
  obtain ⟨h0, h1, h2⟩ := hp
  refine ⟨h0.since ho hF, h1.trans hg, ?_⟩
  rcases h2 with ⟨e, h3, h4⟩ | ⟨e, h3, l, d', rd', h4, h5, h6⟩ | ⟨l, d1, d2, ok, s, rd', h3, h4, h5, h6, e, h8, h9, h10⟩
  · exact .inl ⟨e, h3, h4.1.only ho hk (by decide) (by decide) (by decide) (by decide) (by decide), fun r a v hr => ho.blk_ hk (h4.2 r a v hr) (by decide)⟩
  · exact .inr (.inl ⟨e, ho.blk_ hk h3 (by decide), l, d', rd', h4, h5, h6.only_ ho hk (by decide) (by decide)⟩)
  · refine .inr (.inr ⟨l, d1, d2, ok, s, rd', h3, h4, h5, h6, e, h8.only_ ho hk (by decide) (by decide), fun e => ho.blk_ hk (h9 e) (by decide), fun e => ?_⟩)
    obtain ⟨S', G', v, k1, k2, k3, k4, k5⟩ := h10 e
    exact ⟨S', G', v, k1.only ho hk (by decide) (by decide) (by decide) (by decide) (by decide), k2, k3, ho.blk_ hk k4 (by decide), k5⟩
set_option maxRecDepth 100000 in
set_option maxHeartbeats 2000000 in
theorem psave_any (E : TEnv) (h : Nat) (t : Pl.Tr h) (fr : Nat) (js : List Nat) (w : World) (rd : Int) (G : Gh) (hin : SvIn E w rd G h t fr js) (hbad : E.m.bad = false) (hge : GE w) :
    Calls Tryz.prog 23 #[.pointer (some ⟨E.gT, 0, none⟩)] w fun e w' => ∃ k : Nat, e = .returned (errA (k : Nat) ⟨#[]⟩) ∧ SvK E rd G h t js true w k w' := by
  have hb0 : Below w.heap.size w (w.alloc err0) := (Below.refl _ _).alloc (Nat.le_refl _) _
  have HC := Lib.hid (tsave_any E h t fr js (w.alloc err0) rd G (hin.below hb0) hbad)
  have BE : Hid (Blk (w.alloc err0) w.heap.size 28 [.int .i64 0, .string ⟨#[]⟩, .bool false]) := Blk.new w 28 _
  have HG0 := Lib.hid (hge.below hb0)
  have HB0 := Lib.hid hb0
  have HLW := Lib.hid hin.tw.base
  clear hin hge hb0
  go_enter Tryz.func23, Tryz.ntmps23
  go_wp2_with fail
  refine HC.out.mono ?_
  rintro e w2 ⟨k, rfl, hq⟩
  have HQ := Lib.hid hq
  have hk8 := hq.kind
  have HG2 := Lib.hid (hq.2.1.2.1 HG0.out)
  have BE2 := Lib.hid (hq.1.blk BE.out (by decide))
  clear hq
  go_wp2_with fail
  refine (told_any _ _ ⟨#[]⟩ _ HG2.out (errK_err _ _) (by omega)).mono ?_
  rintro e w3 ⟨rfl, hb3⟩
  have BE3 := Lib.hid (BE2.out.below hb3 BE2.out.lt)
  obtain ⟨c0, c1, c2, f0, f1, f2⟩ := facts3 BE3.out
  have HB3 := Lib.hid hb3
  clear hb3
  go_wp2_with fail
  refine bodyPost_ret (v := errA _ ⟨#[]⟩) (results_err1 rfl rfl (BE3.out.set3 _ _ _)) rfl ⟨k, rfl, ?_⟩
  have hq1 : SvK E rd G h t js true w k w2 := HQ.out.before HB0.out
  have hq2 := hq1.only (Only.of_below HB3.out (fun _ => False)) (fun _ h => h.elim) (fun _ _ h => h) (Gk.of_below HB3.out)
  have ho : Only (· = w.heap.size) w3 w3 := Only.refl _ _
  have ho3 : ∀ x0 x1 x2, Only (· = w.heap.size) w3 (((w3.setCell ⟨w.heap.size, 0, none⟩ x0).setCell ⟨w.heap.size, 1, none⟩ x1).setCell ⟨w.heap.size, 2, none⟩ x2) := fun x0 x1 x2 => ((ho.setCell (p := ⟨w.heap.size, 0, none⟩) (.inl rfl) x0).setCell (p := ⟨w.heap.size, 1, none⟩) (.inl rfl) x1).setCell (p := ⟨w.heap.size, 2, none⟩) (.inl rfl) x2
  exact hq2.only (ho3 _ _ _) (one_kinds BE3.out) (fun x hx e => by omega) (Gk.of1 BE3.out rfl HLW.out (ho3 _ _ _))
end Go.Proofs.YtljmklohgpaopaaGreatDoor

namespace Go.Proofs.YtljmklohgpaopaaGreatDoor
open Go.RowKit
set_option linter.unusedSectionVars false
variable [Inhabited LoT]

theorem FreeW.look {first : Nat} {js : List Nat} : ∀ {l : List Pl.Ch} {d d' : Pl.Dk} {ok : Bool}, FreeW first js l → d.run l = (d', ok) → ∀ j, (j < 2 ∨ j ∈ js) → d'.look (first + j) = d.look (first + j)
  | [], d, d', ok, _, hr, j, _ => by rw [Pl.Dk.run_nil] at hr; injection hr with h1 _; subst h1; rfl
  | c :: l, d, d', ok, h, hr, j, hj => by
    have hc : (d.change c).look (first + j) = d.look (first + j) := by
      rcases h c (by simp) with rfl | ⟨i, x, rfl, h1, h2⟩
      · exact look_sync d _
      · exact look_off d _ _ x (fun e => by
          have : i = j := by omega
          subst this
          rcases hj with hj | hj
          · omega
          · exact h2 hj)
    rw [Pl.Dk.run_cons] at hr
    by_cases hal : d.alive = true
    · rw [if_pos hal] at hr
      rw [FreeW.look (fun c hc => h c (List.mem_cons_of_mem _ hc)) hr j hj, hc]
    · rw [if_neg hal] at hr
      injection hr with h1 _
      subst h1
      exact hc
theorem run_len : ∀ (l : List Pl.Ch) (d : Pl.Dk), (d.run l).1.secs.length = d.secs.length
  | [], d => rfl
  | c :: l, d => by
    rw [Pl.Dk.run_cons]
    split
    · rw [run_len l, tchange_length]
    · exact tchange_length d c
theorem run_life {d : Pl.Dk} (h : d.life < 0) (l : List Pl.Ch) : (d.run l).1.life = d.life := by rw [Pl.run_of h]
theorem change_life {d : Pl.Dk} (h : d.life < 0) (c : Pl.Ch) : (d.change c).life = d.life := by rw [Pl.change_of h]
def begun (d : Pl.Dk) (first : Nat) : Pl.Dk := ((d.change (.wr (first + 0) [])).change (.wr (first + 1) [])).change .sy
/-- What Create leaves. -/
def CrPost (g : Nat) (vD : Value) (d : Pl.Dk) (rd : Int) (first n : Nat) (w w' : World) : Prop :=
  SFr saveT2 w w' ∧ Gk w w' ∧ ∃ (l : List Pl.Ch) (d1 : Pl.Dk) (s : Pl.ST 0) (rd' : Int), FreeW first [] l ∧ (begun d first).run (l ++ [.sy]) = (d1, true) ∧ Pl.OnD (fun j => d1.look (first + j)) n 0 s ([] : List Pl.Pr) ∧
    DiskAt w' g vD ((d1.change (.wr (first + 1) (slotT 1 (Pl.top 0 s) (Pl.dcount n (Pl.secsOf 0 s))))).change .sy) rd' ∧ RdK 100000 rd rd'
theorem SvPost.lives {E : TEnv} {rd : Int} {G : Gh} {h : Nat} {t : Pl.Tr h} {js : List Nat} {w w' : World} {e : Ending} (hl : E.d.life < 0) (hp : SvPost E rd G h t js w e w') : e = .returned (.tuple #[]) ∧ SFr saveT2 w w' ∧ Gk w w' ∧ ∃ l d1 s rd', FreeW E.m.first js l ∧ E.d.run (l ++ [.sy]) = (d1, true) ∧ Pl.OnD (fun j => d1.look (E.m.first + j)) E.m.n h s t ∧
    DiskAt w' E.m.g E.vD ((d1.change (.wr (E.m.first + (E.m.seq + 1) % 2) (slotT (E.m.seq + 1) (Pl.top h s) (Pl.dcount E.m.n (Pl.secsOf h s))))).change .sy) rd' ∧ RdK 100000 rd rd' := by
  obtain ⟨h0, h1, ⟨rfl, h2, l, d', rd', h3, h4, h5⟩ | ⟨l, d1, d2, ok, s, rd', h2, h3, h4, h5, h6, h7, h8, h9⟩⟩ := hp
  · rcases h4 with ⟨h4, _⟩ | h4
    · omega
    · rw [Pl.run_of hl] at h4
      injection h4 with _ h4
      cases h4
  · have hd1 : d1.life < 0 := by have := run_life hl (l ++ [.sy]); rw [h3] at this; exact this ▸ hl
    rw [Pl.Dk.run_cons, if_pos (Pl.alive_of hd1), Pl.Dk.run_cons, if_pos (Pl.alive_of (by rw [change_life hd1]; exact hd1)), Pl.Dk.run_nil] at h5
    injection h5 with e1 e2
    subst e1 e2
    obtain ⟨S', G', v, k1, k2, k3, _⟩ := h9 rfl
    rcases h6 with ⟨_, h6⟩ | ⟨h6, _⟩
    · exact ⟨h6, h0, h1, l, d1, s, rd', h2, h3, h4, h7, k3⟩
    · cases h6
/-- One ref alone. -/
def opGh (r h : Nat) (t : Pl.Tr h) : Gh := fun k => if k = r then some ⟨h, t⟩ else none
theorem opGh_self (r h : Nat) (t : Pl.Tr h) : opGh r h t r = some ⟨h, t⟩ := if_pos rfl
theorem opGh_eq {r h k : Nat} {t : Pl.Tr h} {x : Pl.Any} (hk : opGh r h t k = some x) : k = r ∧ x = ⟨h, t⟩ := by
  unfold opGh at hk
  by_cases e : k = r
  · rw [if_pos e] at hk
    injection hk with hk
    exact ⟨e, hk.symm⟩
  · rw [if_neg e] at hk; cases hk
theorem enters_create1 (caps : Array Value) (W : World) : (callFunc 78 caps).run Tryz.prog W = .ok (.enter 78 caps) W := by simp [go_sem]
theorem TEnds.lives {d : Pl.Dk} {k : Nat} {e : Ending} (h : TEnds d.alive k e) (hl : d.life < 0) : e = .returned (.tuple #[]) := by
  rcases h with ⟨_, h⟩ | ⟨h, _⟩
  · exact h
  · rw [Pl.alive_of hl] at h; cases h
set_option maxRecDepth 100000 in
set_option maxHeartbeats 4000000 in
theorem tcreate1_any (gT gt g first n : Nat) (vD : Value) (d : Pl.Dk) (rd : Int) (w : World) (hB : Blk w gT 158 [.pointer (some ⟨g, 0, none⟩), .int .i64 (first : Nat), .int .i64 (n : Nat), .pointer none, .pointer none, .int .u64 0, .int .i64 0, .bool false]) (ht : Blk w gt 45 [.pointer (some ⟨gT, 0, none⟩)])
    (h : DiskAt w g vD d rd) (hl : d.life < 0) (hn : 16 ≤ n) (hn2 : n ≤ 4096) (hf : first + n ≤ d.secs.length) (hev : EvAt w) (hld : ∀ k, dF g vD k → LO ≤ k) (hlt : LO ≤ gT) :
    Calls Tryz.prog 78 #[.pointer (some ⟨gt, 0, none⟩)] w fun e w' => e = .returned (.tuple #[]) ∧ CrPost g vD d rd first n w w' := by
  obtain ⟨m0, hm0⟩ : ∃ m : Tm, (⟨g, first, n, 0, none, 0, 0, false⟩ : Tm) = m := ⟨_, rfl⟩
  have eg : m0.g = g := by rw [← hm0]
  have ef : m0.first = first := by rw [← hm0]
  have hk := h.kinds
  obtain ⟨rest, hrest⟩ : ∃ r : List Value, [.int .i64 (n : Nat), .pointer none, .pointer none, .int .u64 0, .int .i64 0, .bool false] = r := ⟨_, rfl⟩
  rw [show ([.pointer (some ⟨g, 0, none⟩), .int .i64 (first : Nat), .int .i64 (n : Nat), .pointer none, .pointer none, .int .u64 0, .int .i64 0, .bool false] : List Value) = .pointer (some ⟨g, 0, none⟩) :: .int .i64 (first : Nat) :: rest by rw [← hrest]] at hB
  have w1h := twriteB gT m0 rest vD d rd 0 [] w (by rw [eg, ef]; exact hB) (by rw [eg]; exact h) (by rw [ef]; omega) (by simp)
  rw [eg, ef, show tstr [] = ⟨#[]⟩ from rfl] at w1h
  have HW1 := Lib.hid w1h
  have HB := Lib.hid hB
  have HT := Lib.hid ht
  have HK := Lib.hid hk
  have HD := Lib.hid h
  have HEV := Lib.hid hev
  have HRE := Lib.hid hrest
  have d0 : w.cell? ⟨gt, 0, none⟩ = some (.pointer (some ⟨gT, 0, none⟩)) := ht.cell 0
  have h0 : 0 < d.secs.length := by omega
  clear hm0 hB ht hk h hev hrest w1h
  go_enter Tryz.func78, Tryz.ntmps78
  go_wp2_with fail
  refine HW1.out.mono ?_
  rintro e w1 ⟨hend, hd1, ho1⟩
  obtain rfl := hend.lives hl
  obtain ⟨d1, hd1e⟩ : ∃ x, d.change (.wr (first + 0) []) = x := ⟨_, rfl⟩
  have hl1 : d1.life < 0 := by rw [← hd1e, change_life hl]; exact hl
  have hs1 : d1.secs.length = d.secs.length := by rw [← hd1e, tchange_length]
  rw [hd1e] at hd1
  have hB1 := ho1.blk_ HK.out HB.out (by decide)
  have hT1 := ho1.blk_ HK.out HT.out (by decide)
  have hg1 := Gk.of_disk HD.out h0 hld ho1
  have hf1 : SFr saveT2 w w1 := ⟨_, ho1, HK.out.spare.mono (by simp [saveT2, saveT])⟩
  have w2h := twriteB gT m0 rest vD d1 rd 1 [] w1 (by rw [eg, ef]; exact hB1) (by rw [eg]; exact hd1) (by rw [ef]; omega) (by simp)
  rw [eg, ef, show tstr [] = ⟨#[]⟩ from rfl] at w2h
  have HW2 := Lib.hid w2h
  have HB1 := Lib.hid hB1
  have HT1 := Lib.hid hT1
  have HG1 := Lib.hid hg1
  have HF1 := Lib.hid hf1
  have HD1 := Lib.hid hd1
  have d1' : w1.cell? ⟨gt, 0, none⟩ = some (.pointer (some ⟨gT, 0, none⟩)) := hT1.cell 0
  clear w2h hB1 hT1 hg1 hf1 hd1 ho1 hend d0
  go_wp2_with fail
  refine HW2.out.mono ?_
  rintro e w2 ⟨hend, hd2, ho2⟩
  obtain rfl := hend.lives hl1
  obtain ⟨d2, hd2e⟩ : ∃ x, d1.change (.wr (first + 1) []) = x := ⟨_, rfl⟩
  have hl2 : d2.life < 0 := by rw [← hd2e, change_life hl1]; exact hl1
  have hs2 : d2.secs.length = d.secs.length := by rw [← hd2e, tchange_length, hs1]
  rw [hd2e] at hd2
  have hK1 := HD1.out.kinds
  have hB2 := ho2.blk_ hK1 HB1.out (by decide)
  have hT2 := ho2.blk_ hK1 HT1.out (by decide)
  have hg2 := HG1.out.trans (Gk.of_disk HD1.out (by omega) hld ho2)
  have hf2 : SFr saveT2 w w2 := HF1.out.trans ⟨_, ho2, hK1.spare.mono (by simp [saveT2, saveT])⟩
  have w3h := tsyncB gT m0 (.int .i64 (first : Nat) :: rest) vD d2 rd w2 (by rw [eg]; exact hB2) (by rw [eg]; exact hd2)
  rw [eg] at w3h
  have HW3 := Lib.hid w3h
  have HB2 := Lib.hid hB2
  have HT2 := Lib.hid hT2
  have HG2 := Lib.hid hg2
  have HF2 := Lib.hid hf2
  have HD2 := Lib.hid hd2
  have d2' : w2.cell? ⟨gt, 0, none⟩ = some (.pointer (some ⟨gT, 0, none⟩)) := hT2.cell 0
  clear w3h hB2 hT2 hg2 hf2 hd2 ho2 hend d1' hK1
  go_wp2_with fail
  refine HW3.out.mono ?_
  rintro e w3 ⟨hend, hd3, ho3⟩
  obtain rfl := hend.lives hl2
  obtain ⟨d3, hd3e⟩ : ∃ x, d2.change .sy = x := ⟨_, rfl⟩
  have hl3 : d3.life < 0 := by rw [← hd3e, change_life hl2]; exact hl2
  have hs3 : d3.secs.length = d.secs.length := by rw [← hd3e, tchange_length, hs2]
  have hbg : begun d first = d3 := by unfold begun; rw [hd1e, hd2e, hd3e]
  rw [hd3e] at hd3
  have hK2 := HD2.out.kinds
  have hB3 := ho3.blk_ hK2 HB2.out (by decide)
  have hT3 := ho3.blk_ hK2 HT2.out (by decide)
  have hg3 := HG2.out.trans (Gk.of_disk HD2.out (by omega) hld ho3)
  have hf3 : SFr saveT2 w w3 := HF2.out.trans ⟨_, ho3, hK2.spare.mono (by simp [saveT2, saveT])⟩
  obtain ⟨bl, hbl⟩ : ∃ g, w3.heap.size = g := ⟨_, rfl⟩
  obtain ⟨w4, hw4⟩ : ∃ x, w3.alloc (.cells #[.slice none 0 0] 164) = x := ⟨_, rfl⟩
  have hb4 : Below w3.heap.size w3 w4 := by rw [← hw4]; exact (Below.refl _ _).alloc (Nat.le_refl _) _
  have BL : Blk w4 bl 164 [.slice none 0 0] := by rw [← hw4, ← hbl]; exact Blk.new w3 164 _
  obtain ⟨r, hr⟩ : ∃ g, w4.heap.size = g := ⟨_, rfl⟩
  obtain ⟨w5, hw5⟩ : ∃ x, w4.alloc (.cells #[.int .i64 0, .iface 161 (.pointer (some ⟨bl, 0, none⟩))] 168) = x := ⟨_, rfl⟩
  have hb5 : Below w4.heap.size w4 w5 := by rw [← hw5]; exact (Below.refl _ _).alloc (Nat.le_refl _) _
  have BR : RefAt w5 r 0 (leafV bl) := by rw [← hw5, ← hr]; exact Blk.new w4 168 _
  have hb35 := hb4.trans (hb5.mono hb4.size)
  have hB5 := hB3.below hb35 hB3.lt
  have hT5 := hT3.below hb35 hT3.lt
  have hd5 := hd3.below hb35
  have d5' : w5.cell? ⟨gt, 0, none⟩ = some (.pointer (some ⟨gT, 0, none⟩)) := hT5.cell 0
  have d3' : w3.cell? ⟨gt, 0, none⟩ = some (.pointer (some ⟨gT, 0, none⟩)) := hT3.cell 0
  obtain ⟨w6, hw6⟩ : ∃ x, w5.setCell ⟨gT, 3, none⟩ (.pointer (some ⟨r, 0, none⟩)) = x := ⟨_, rfl⟩
  have ho6 : Only (· = gT) w5 w6 := by rw [← hw6]; exact (Only.refl (· = gT) w5).setCell (p := ⟨gT, 3, none⟩) (.inl rfl) _
  have hk6 : Kinds (· = gT) w5 [158] := one_kinds hB5
  have hTm : TmAt w6 gT ⟨g, first, n, r, none, 0, 0, false⟩ := by
    rw [← hw6]
    have := hB5.set_ 3 (.pointer (some ⟨r, 0, none⟩))
    rw [← HRE.out] at this
    exact this
  have hRf : RefAt w6 r 0 (leafV bl) := ho6.blk_ hk6 BR (by decide)
  have hLf : LeafAt w6 bl [] := ⟨none, 0, ho6.blk_ hk6 (BL.below hb5 BL.lt) (by decide), Nat.le_refl _, .inl rfl, fun p hp => by cases hp⟩
  have hd6 : DiskAt w6 g vD d3 rd := hd5.only_ ho6 hk6 (by decide) (by decide)
  have hT6 := ho6.blk_ hk6 hT5 (by decide)
  have hg6 : Gk w w6 := (hg3.trans (Gk.of_below hb35)).trans (Gk.of1 hB5 rfl hlt ho6)
  have hf6 : SFr saveT2 w w6 := (hf3.trans (SFr.of_below hb35)).trans ⟨_, ho6, hk6.spare.mono (by simp [saveT2])⟩
  obtain ⟨G, hG⟩ : ∃ G : Gh, G = opGh r 0 ([] : List Pl.Pr) := ⟨_, rfl⟩
  have hGr : G r = some ⟨0, ([] : List Pl.Pr)⟩ := by rw [hG]; exact opGh_self _ _ _
  have hInv : Inv w6 G (TEnv.D ⟨gT, ⟨g, first, n, r, none, 0, 0, false⟩, vD, d3, []⟩) n [] := fun k h' t' hk' => by
    rw [hG] at hk'
    obtain ⟨e, e0⟩ := opGh_eq hk'
    injection e0 with e1 e2
    subst e1
    obtain rfl := eq_of_heq e2
    subst e
    exact .inl ⟨leafV bl, hRf, bl, rfl, hLf⟩
  have hin : SvIn ⟨gT, ⟨g, first, n, r, none, 0, 0, false⟩, vD, d3, []⟩ w6 rd G 0 ([] : List Pl.Pr) 1 [] :=
    ⟨⟨hTm, hd6, hInv, by show first + n ≤ d3.secs.length; omega, ⟨fun k x hk => by
      rw [hG] at hk
      rw [(opGh_eq hk).1, ← hr]
      exact Nat.le_trans hlt (Nat.le_trans (Nat.le_of_lt hB3.lt) hb4.size), hld, hlt⟩⟩, hGr, ⟨⟨by decide, fun p hp => by cases hp⟩, List.Pairwise.nil, fun p hp => by cases hp⟩, Nat.zero_le _, ⟨0, leafV bl, hRf, .inr ⟨rfl, rfl⟩⟩, by show 1 + 0 + 2 ≤ n; omega, hn2, .inl ⟨rfl, rfl, rfl⟩, hg6.1 HEV.out, (fun j hj => by cases hj), Nat.zero_le _, by show (0 : Nat) + 1 < _; decide, by show (1 : Nat) ≤ 20000; decide⟩
  have HS := Lib.hid (save_any ⟨gT, ⟨g, first, n, r, none, 0, 0, false⟩, vD, d3, []⟩ 0 ([] : List Pl.Pr) 1 [] w6 rd G hin)
  have HG6 := Lib.hid hg6
  have HF6 := Lib.hid hf6
  have HBG := Lib.hid hbg
  have d6' : w6.cell? ⟨gt, 0, none⟩ = some (.pointer (some ⟨gT, 0, none⟩)) := hT6.cell 0
  have f6 : ∀ i, w5.frozen? ⟨gT, i, none⟩ = false := fun i => hB5.frozen i
  have f63 := f6 3
  have c53 : w5.cell? ⟨gT, 3, none⟩ = some (.pointer none) := by
    have := hB5.cell 3
    rw [← HRE.out] at this
    exact this
  clear hend hd3 ho3 hK2 hB3 hT3 hg3 hf3 hb4 BL hb5 BR hb35 hB5 hT5 hd5 ho6 hk6 hTm hRf hLf hd6 hT6 hg6 hf6 hG hGr hInv hin hbg d2'
  go_wp2_with fail
  refine HS.out.mono ?_
  rintro e w7 h7
  obtain ⟨rfl, h8, h9, l, dd, s, rd', h10, h11, h12, h13, h14⟩ := h7.lives hl3
  have HX : Hid (CrPost g vD d rd first n w w7) := ⟨HF6.out.trans h8, HG6.out.trans h9, l, dd, s, rd', h10, by rw [HBG.out]; exact h11, h12, h13, h14⟩
  clear h7 h8 h9 h10 h11 h12 h13 h14
  go_wp2_with fail
  go_end0
  exact ⟨rfl, HX.out⟩
theorem CrPost.before {g : Nat} {vD : Value} {d : Pl.Dk} {rd : Int} {first n : Nat} {w0 w w' : World} (h : CrPost g vD d rd first n w w') (hb : Below w0.heap.size w0 w) : CrPost g vD d rd first n w0 w' :=
  ⟨(SFr.of_below hb).trans h.1, (Gk.of_below hb).trans h.2.1, h.2.2⟩
theorem CrPost.only {g : Nat} {vD : Value} {d : Pl.Dk} {rd : Int} {first n : Nat} {w w' w'' : World} {F : Nat → Prop} {ts : List TypeId} (h : CrPost g vD d rd first n w w') (ho : Only F w' w'') (hk : Kinds F w' ts) (h1 : 102 ∉ ts) (h2 : 104 ∉ ts) (hF : ∀ x, x < w.heap.size → ¬ F x) (hg : Gk w' w'') : CrPost g vD d rd first n w w'' := by
  obtain ⟨k0, k1, l, d1, s, rd', k2, k3, k4, k5, k6⟩ := h
  exact ⟨k0.since ho hF, k1.trans hg, l, d1, s, rd', k2, k3, k4, k5.only_ ho hk h1 h2, k6⟩
set_option maxRecDepth 100000 in
set_option maxHeartbeats 4000000 in
theorem tcreate_any (g first n : Nat) (vD : Value) (d : Pl.Dk) (rd : Int) (w : World) (h : DiskAt w g vD d rd) (hl : d.life < 0) (hn : 16 ≤ n) (hn2 : n ≤ 4096) (hf : first + n ≤ d.secs.length) (hev : EvAt w) (hld : ∀ k, dF g vD k → LO ≤ k) :
    Calls Tryz.prog 44 #[.pointer (some ⟨g, 0, none⟩), .int .i64 (first : Nat), .int .i64 (n : Nat)] w fun e w' => e = .returned .nilIface ∧ CrPost g vD d rd first n w w' := by
  have HP := Lib.hid (tplaced_any g vD d rd first n w h hn hf)
  obtain ⟨gT, hgT⟩ : ∃ g, w.heap.size = g := ⟨_, rfl⟩
  obtain ⟨w1, hw1⟩ : ∃ x, w.alloc (.cells #[.pointer (some ⟨g, 0, none⟩), .int .i64 (first : Nat), .int .i64 (n : Nat), .pointer none, .pointer none, .int .u64 0, .int .i64 0, .bool false] 158) = x := ⟨_, rfl⟩
  have hb1 : Below w.heap.size w w1 := by rw [← hw1]; exact (Below.refl _ _).alloc (Nat.le_refl _) _
  have B1 : Blk w1 gT 158 [.pointer (some ⟨g, 0, none⟩), .int .i64 (first : Nat), .int .i64 (n : Nat), .pointer none, .pointer none, .int .u64 0, .int .i64 0, .bool false] := by rw [← hw1, ← hgT]; exact Blk.new w 158 _
  obtain ⟨gt, hgt⟩ : ∃ g, w1.heap.size = g := ⟨_, rfl⟩
  obtain ⟨w2, hw2⟩ : ∃ x, w1.alloc (.cells #[.pointer (some ⟨gT, 0, none⟩)] 45) = x := ⟨_, rfl⟩
  have hb2 : Below w1.heap.size w1 w2 := by rw [← hw2]; exact (Below.refl _ _).alloc (Nat.le_refl _) _
  have B2 : Blk w2 gt 45 [.pointer (some ⟨gT, 0, none⟩)] := by rw [← hw2, ← hgt]; exact Blk.new w1 45 _
  have hb12 := hb1.trans (hb2.mono hb1.size)
  have HGD : Hid (Calls Tryz.prog 77 #[.func (.func 78) #[] #[.pointer (some ⟨gt, 0, none⟩)]] w2 fun e w' => e = .returned .nilIface ∧ CrPost g vD d rd first n w2 w') := by
    obtain ⟨W1, hW1⟩ : ∃ x, w2.alloc (.cells #[.nilIface] 83) = x := ⟨_, rfl⟩
    have hbe : Below w2.heap.size w2 W1 := by rw [← hW1]; exact (Below.refl _ _).alloc (Nat.le_refl _) _
    have he : Blk W1 w2.heap.size 83 [.nilIface] := by rw [← hW1]; exact Blk.new w2 83 _
    have hba := hb12.trans (hbe.mono hb12.size)
    have hp := tcreate1_any gT gt g first n vD d rd W1 ((B1.below hb2 B1.lt).below hbe (B1.below hb2 B1.lt).lt) (B2.below hbe B2.lt) (h.below hba) hl hn hn2 hf ((Gk.of_below hba).1 hev) hld (by rw [← hgT]; exact Nat.le_trans (hld g (.inl rfl)) (Nat.le_of_lt (h.lt g (.inl rfl))))
    refine (tguardedK 78 #[.pointer (some ⟨gt, 0, none⟩)] w2 (fun k w' => k = 0 ∧ Blk w' w2.heap.size 83 [.nilIface] ∧ CrPost g vD d rd first n w2 w') (enters_create1 _) ?_).mono ?_
    · rw [hW1]
      refine hp.mono ?_
      rintro e w' ⟨rfl, hq⟩
      have hbk := hq.1.blk he (by decide)
      exact ⟨hbk, 0, .inl ⟨rfl, rfl⟩, rfl, hbk, hq.before hbe⟩
    · rintro e w'' ⟨k, w', _, ⟨rfl, hbk, hq⟩, ho, rfl⟩
      exact ⟨rfl, hq.only ho (one_kinds hbk) (by decide) (by decide) (fun x hx e => by omega) (Gk.of1 hbk rfl (Nat.le_trans (Nat.le_trans (hld g (.inl rfl)) (Nat.le_of_lt (h.lt g (.inl rfl)))) hb12.size) ho)⟩
  have HB12 := Lib.hid hb12
  have hmf : ∀ (fn : Fn) (first cap : Array Value) (w : World), (Instr.makeFunc fn first cap).run Tryz.prog w = .ok (.func fn first cap) w := fun _ _ _ _ => rfl
  clear h hev hb1 B1 hb2 B2 hb12
  go_enter Tryz.func44, Tryz.ntmps44
  go_wp2_with fail
  refine HP.out.mono ?_
  rintro e w' ⟨rfl, rfl⟩
  go_wp2_with fail
  refine HGD.out.mono ?_
  rintro e w' ⟨rfl, hq⟩
  have HQ := Lib.hid (hq.before HB12.out)
  clear hq
  go_wp2_with fail
  go_ret
  exact ⟨rfl, HQ.out⟩
set_option maxRecDepth 100000 in
set_option maxHeartbeats 2000000 in
theorem tnewP_any (g first n : Nat) (vD : Value) (d : Pl.Dk) (rd : Int) (w : World) (h : DiskAt w g vD d rd) (hl : d.life < 0) (hn : 16 ≤ n) (hn2 : n ≤ 4096) (hf : first + n ≤ d.secs.length) (hev : EvAt w) (hge : GE w) (hld : ∀ k, dF g vD k → LO ≤ k) :
    Calls Tryz.prog 18 #[.pointer (some ⟨g, 0, none⟩), .int .i64 (first : Nat), .int .i64 (n : Nat)] w fun e w' => e = .returned (errA 0 ⟨#[]⟩) ∧ CrPost g vD d rd first n w w' := by
  have hb0 : Below w.heap.size w (w.alloc err0) := (Below.refl _ _).alloc (Nat.le_refl _) _
  have HC := Lib.hid (tcreate_any g first n vD d rd (w.alloc err0) (h.below hb0) hl hn hn2 hf ((Gk.of_below hb0).1 hev) hld)
  have BE : Hid (Blk (w.alloc err0) w.heap.size 28 [.int .i64 0, .string ⟨#[]⟩, .bool false]) := Blk.new w 28 _
  have HG0 := Lib.hid (hge.below hb0)
  have HB0 := Lib.hid hb0
  have HLW : Hid (LO ≤ w.heap.size) := Nat.le_trans (hld g (.inl rfl)) (Nat.le_of_lt (h.lt g (.inl rfl)))
  clear h hev hge hb0
  go_enter Tryz.func18, Tryz.ntmps18
  go_wp2_with fail
  refine HC.out.mono ?_
  rintro e w2 ⟨rfl, hq⟩
  have HQ := Lib.hid hq
  have HG2 := Lib.hid (hq.2.1.2.1 HG0.out)
  have BE2 := Lib.hid (hq.1.blk BE.out (by decide))
  clear hq
  go_wp2_with fail
  refine (told_any .nilIface 0 ⟨#[]⟩ _ HG2.out (ErrV.nil _) (by omega)).mono ?_
  rintro e w3 ⟨rfl, hb3⟩
  have BE3 := Lib.hid (BE2.out.below hb3 BE2.out.lt)
  obtain ⟨c0, c1, c2, f0, f1, f2⟩ := facts3 BE3.out
  have HB3 := Lib.hid hb3
  clear hb3
  go_wp2_with fail
  refine bodyPost_ret (v := errA 0 ⟨#[]⟩) (results_err1 rfl rfl (BE3.out.set3 _ _ _)) rfl ⟨rfl, ?_⟩
  have hq1 : CrPost g vD d rd first n w w2 := HQ.out.before HB0.out
  have hq2 := hq1.only (Only.of_below HB3.out (fun _ => False)) (ts := []) (fun _ h => h.elim) (by simp) (by simp) (fun _ _ h => h) (Gk.of_below HB3.out)
  have ho : Only (· = w.heap.size) w3 w3 := Only.refl _ _
  have ho3 : ∀ x0 x1 x2, Only (· = w.heap.size) w3 (((w3.setCell ⟨w.heap.size, 0, none⟩ x0).setCell ⟨w.heap.size, 1, none⟩ x1).setCell ⟨w.heap.size, 2, none⟩ x2) := fun x0 x1 x2 => ((ho.setCell (p := ⟨w.heap.size, 0, none⟩) (.inl rfl) x0).setCell (p := ⟨w.heap.size, 1, none⟩) (.inl rfl) x1).setCell (p := ⟨w.heap.size, 2, none⟩) (.inl rfl) x2
  exact hq2.only (ho3 _ _ _) (one_kinds BE3.out) (by decide) (by decide) (fun x hx e => by omega) (Gk.of1 BE3.out rfl HLW.out (ho3 _ _ _))
end Go.Proofs.YtljmklohgpaopaaGreatDoor
