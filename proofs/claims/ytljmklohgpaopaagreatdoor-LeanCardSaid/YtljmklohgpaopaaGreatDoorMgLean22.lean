/- What is left alone: blocks of other types; a map's block too. A tree: which sectors are used. A tree: what is kept while pages are written. Plain: a log on a disk that does not die has what was laid into it. No program in sight. -/
import Derived.Test.YtljmklohgpaopaaGreatDoorMgLean21
import Derived.Test.YtljmklohgpaopaaGreatDoorMgLean2
set_option linter.unusedVariables false
set_option linter.unusedSimpArgs false

namespace Go.Proofs.YtljmklohgpaopaaGreatDoor
open Go.RowKit Go.Maps Go.WideMaps
set_option linter.unusedSectionVars false
variable [Inhabited LoT]

/-- No block of another type is one of F's. -/
def Spare (F : Nat → Prop) (w : World) (ts : List TypeId) : Prop := ∀ k t, Typ w k t → t ∉ ts → ¬ F k
theorem Kinds.spare {F : Nat → Prop} {w : World} {ts : List TypeId} (h : Kinds F w ts) : Spare F w ts := fun k t ht hn hf => by
  obtain ⟨t', h1, h2⟩ := h k hf
  exact hn (ht.uniq h2 ▸ h1)
theorem UsedAt.spare {w : World} {b k : Nat} {js : List Nat} (h : UsedAt w b k js) : Spare (· = b) w [] := fun x t ht _ hx => by
  subst hx
  obtain ⟨cs, fz, hb⟩ := ht
  obtain ⟨D, ⟨es, clock, h1, h2⟩, h3⟩ := h
  rw [hb] at h1
  cases h1
section
variable {F : Nat → Prop} {w w' : World} {ts : List TypeId}
theorem Spare.mono {ts' : List TypeId} (h : Spare F w ts) (hs : ∀ t ∈ ts, t ∈ ts') : Spare F w ts' := fun k t ht hn => h k t ht (fun hm => hn (hs t hm))
theorem Blk.sp {k : Nat} {t : TypeId} {cs : List Value} (hb : Blk w k t cs) (ho : Only F w w') (hs : Spare F w ts) (ht : t ∉ ts) : Blk w' k t cs := ho.blk hb (hs k t hb.typ ht)
theorem Typ.sp {k : Nat} {t : TypeId} (h : Typ w k t) (ho : Only F w w') (hs : Spare F w ts) (ht : t ∉ ts) : Typ w' k t := by
  have hn := hs k t h ht
  obtain ⟨cs, fz, hb⟩ := h
  exact ⟨cs, fz, (ho.block k (Array.getElem?_eq_some_iff.1 hb).1 hn).trans hb⟩
theorem TSrc.sp {A : Option Addr} {cs : List Value} {t : TypeId} (h : TSrc w A cs t) (ho : Only F w w') (hs : Spare F w ts) (ht : t ∉ ts) : TSrc w' A cs t := by
  obtain ⟨h1, h2⟩ := h
  refine ⟨?_, fun p hp => (h2 p hp).sp ho hs ht⟩
  rcases h1 with h1 | ⟨b, off, rfl, h1⟩
  · exact .inl h1
  · exact .inr ⟨b, off, rfl, fun j u hu => ho.cell (h1 j u hu) (hs _ _ (h2 ⟨b, off, none⟩ rfl) ht)⟩
theorem PgAt.sp {v : Value} {pg : Pg} (h : PgAt w v pg) (ho : Only F w w') (hs : Spare F w ts) (ht : ∀ t ∈ pageTypes, t ∉ ts) : PgAt w' v pg := by
  cases pg with
  | leaf ps =>
    obtain ⟨b, rfl, A, cap, hb, hc, hsr⟩ := h
    exact ⟨b, rfl, A, cap, hb.sp ho hs (ht _ (by simp [pageTypes])), hc, hsr.sp ho hs (ht _ (by simp [pageTypes]))⟩
  | inner ks rs =>
    obtain ⟨b, rfl, A, cap, A', cap', hb, hc, hc', h1, h2⟩ := h
    exact ⟨b, rfl, A, cap, A', cap', hb.sp ho hs (ht _ (by simp [pageTypes])), hc, hc', h1.sp ho hs (ht _ (by simp [pageTypes])), h2.sp ho hs (ht _ (by simp [pageTypes]))⟩
theorem Inv.sp {G : Gh} {D : Nat → Option (List UInt8)} {n : Nat} {S : List Nat} (h : Inv w G D n S) (ho : Only F w w') (hF : Spare F w ts) (h1 : 168 ∉ ts) (h2 : ∀ t ∈ pageTypes, t ∉ ts) : Inv w' G D n S := by
  have pg : ∀ {v : Value} (k : Nat) (t : Pl.Tr k) (so : Option (Pl.ST k)), PgOk w G v k t so → PgOk w' G v k t so := by
    intro v k t so hp
    cases k with
    | zero => exact PgAt.sp (pg := .leaf t) hp ho hF h2
    | succ k =>
      obtain ⟨rs, g1, g2, g3, g4⟩ := hp
      exact ⟨rs, g1.sp ho hF h2, g2, g3, fun s hs i r a hr ha => by
        obtain ⟨pv, h5⟩ := g4 s hs i r a hr ha
        exact ⟨pv, h5.sp ho hF h1⟩⟩
  intro r k t hr
  rcases h r k t hr with ⟨v, g1, g2⟩ | ⟨s, v, g1, g2, g3, g4⟩
  · exact .inl ⟨v, g1.sp ho hF h1, pg _ _ _ g2⟩
  · exact .inr ⟨s, v, g1.sp ho hF h1, g2, g3, g4.imp id (pg _ _ _)⟩
theorem DiskAt.sp {g : Nat} {v : Value} {d : Pl.Dk} {rd : Int} (h : DiskAt w g v d rd) (ho : Only F w w') (hF : Spare F w ts) (h1 : 102 ∉ ts) (h2 : 104 ∉ ts) : DiskAt w' g v d rd := h.only ho fun k hk => by
  obtain ⟨t, k1, k2⟩ := h.kinds k hk
  simp only [List.mem_cons, List.not_mem_nil, or_false] at k1
  rcases k1 with rfl | rfl
  · exact hF _ _ k2 h1
  · exact hF _ _ k2 h2
theorem TW.sp {E : TEnv} {rd : Int} {G : Gh} (h : TW E w rd G) (ho : Only F w w') (hF : Spare F w ts) (h1 : 158 ∉ ts) (h2 : 168 ∉ ts) (h3 : ∀ t ∈ pageTypes, t ∉ ts) (h4 : 102 ∉ ts) (h5 : 104 ∉ ts) : TW E w' rd G :=
  ⟨h.tree.sp ho hF h1, h.disk.sp ho hF h4 h5, h.inv.sp ho hF h2 h3, h.room, h.low⟩
theorem UsedAt.sp {b k : Nat} {js : List Nat} (h : UsedAt w b k js) (ho : Only F w w') (hb : ¬ F b) : UsedAt w' b k js := h.heap (ho.block b h.lt hb)
end
/-- A frame: blocks of these types alone may have changed, and maps. -/
def SFr (ts : List TypeId) (w w' : World) : Prop := ∃ F, Only F w w' ∧ Spare F w ts
theorem SFr.refl (ts : List TypeId) (w : World) : SFr ts w w := ⟨fun _ => False, Only.refl _ _, fun _ _ _ _ h => h⟩
theorem SFr.of_below {ts : List TypeId} {w w' : World} (h : Below w.heap.size w w') : SFr ts w w' := ⟨fun _ => False, Only.of_below h _, fun _ _ _ _ h => h⟩
theorem SFr.trans {ts : List TypeId} {a b c : World} (h : SFr ts a b) (k : SFr ts b c) : SFr ts a c := by
  obtain ⟨F, h1, h2⟩ := h
  obtain ⟨F', k1, k2⟩ := k
  refine ⟨fun x => F x ∨ (x < a.heap.size ∧ F' x), (h1.mono (fun x _ hx => .inl hx)).trans k1 (fun x hx hF => .inr ⟨hx, hF⟩), fun x t ht hn hx => ?_⟩
  have hf := h2 x t ht hn
  rcases hx with hx | ⟨_, hx⟩
  · exact hf hx
  · exact k2 x t (ht.sp h1 h2 hn) hn hx
theorem SFr.mono {ts ts' : List TypeId} {w w' : World} (h : SFr ts w w') (hs : ∀ t ∈ ts, t ∈ ts') : SFr ts' w w' := by
  obtain ⟨F, h1, h2⟩ := h
  exact ⟨F, h1, h2.mono hs⟩
theorem SFr.blk {ts : List TypeId} {w w' : World} (h : SFr ts w w') {k : Nat} {t : TypeId} {cs : List Value} (hb : Blk w k t cs) (ht : t ∉ ts) : Blk w' k t cs := by obtain ⟨F, h1, h2⟩ := h; exact hb.sp h1 h2 ht
theorem SFr.pg {ts : List TypeId} {w w' : World} (h : SFr ts w w') {v : Value} {pg : Pg} (hp : PgAt w v pg) (ht : ∀ t ∈ pageTypes, t ∉ ts) : PgAt w' v pg := by obtain ⟨F, h1, h2⟩ := h; exact hp.sp h1 h2 ht
theorem SFr.tsrc {ts : List TypeId} {w w' : World} (h : SFr ts w w') {A : Option Addr} {cs : List Value} {t : TypeId} (hp : TSrc w A cs t) (ht : t ∉ ts) : TSrc w' A cs t := by obtain ⟨F, h1, h2⟩ := h; exact hp.sp h1 h2 ht
theorem SFr.size {ts : List TypeId} {w w' : World} (h : SFr ts w w') : w.heap.size ≤ w'.heap.size := by obtain ⟨F, h1, _⟩ := h; exact h1.size
theorem TFr.sfr {w w' : World} (h : TFr w w') : SFr [168, 102] w w' := by obtain ⟨F, h1, h2⟩ := h.only; exact ⟨F, h1, h2.spare⟩
theorem SFr.since {ts : List TypeId} {F : Nat → Prop} {w a b : World} (h : SFr ts w a) (k : Only F a b) (hF : ∀ x, x < w.heap.size → ¬ F x) : SFr ts w b := by
  obtain ⟨F', h1, h2⟩ := h
  exact ⟨fun x => F' x ∨ (x < w.heap.size ∧ F x), (h1.mono (fun x _ hx => .inl hx)).trans k (fun x hx hf => .inr ⟨hx, hf⟩), fun x t ht hn hx => by
    rcases hx with hx | ⟨hl, hx⟩
    · exact h2 x t ht hn hx
    · exact hF x hl hx⟩
/-- One more sector is counted. -/
theorem UsedAt.step {w : World} {b k : Nat} {js : List Nat} (j : Nat) (hj : j ≤ 100000) (h : UsedAt w b k js) (hk : k < 100000) (hc : js.length ≤ 100000) :
    ∃ w', (Instr.mapUpdate 234 (.map (some b)) (.int .i64 (j : Int)) (.int .i64 ((js.count j : Nat) + 1 : Int))).run Tryz.prog w = .ok () w' ∧ UsedAt w' b (k + 1) (js ++ [j]) ∧ Only (· = b) w w' := by
  obtain ⟨D, hown, h3, h4⟩ := h
  have hkey : keyOf Tryz.prog 3 (.int .i64 (j : Int)) = some (.int .i64 (j : Int)) := keyOf_int_mk Tryz.underlying3 (wf_nat j hj)
  have htid := hown.tidy Tryz.keyInt
  have hcnt : js.count j ≤ 100000 := Nat.le_trans (List.count_le_length) hc
  have hwf : (Lit.int .i64 ((js.count j : Nat) + 1 : Int)).wf = true := by
    simp only [Lit.wf, IntKind.min, IntKind.max, IntKind.signed, IntKind.bits]
    first | (simp; omega) | omega
  obtain ⟨w', hrun, hown', hg⟩ := hown.update Tryz.keyInt Tryz.underlying234 (by unfold maxLen; omega) hkey (plainElem_int Tryz.underlying3 hwf)
  refine ⟨w', hrun, ⟨_, hown', fun x => ?_, fun n hcnd => ?_, fun x => ?_⟩, ?_⟩
  · by_cases hs : x = j
    · subst hs
      rw [atKey_put_same htid.isMap (show WideAt.IsKeyLit (.int .i64 (x : Int)) from trivial), List.count_append]
      simp
    · rw [atKey_put_other (by intro e; injection e with _ e; exact hs (by omega)), h3, List.count_append]
      have : List.count x [j] = 0 := List.count_eq_zero.2 (by simpa using hs)
      rw [this]; rfl
  · rw [size_put htid, h4.2 j, h4.1 n (fun x hx => hcnd x (List.mem_append_left _ hx)), Pl.dcount_step]
    have h8 := hcnd j (by simp)
    by_cases h9 : j ∈ js
    · simp [h9]
    · simp [h9, h8]
  · by_cases hs : x = j
    · subst hs
      rw [has_put_same htid.isMap (show WideAt.IsKeyLit (.int .i64 (x : Int)) from trivial)]
      simp
    · rw [has_put_other (by intro e; injection e with _ e; exact hs (by omega)), h4.2 x]
      simp [hs]
  · exact ⟨hg.os, hg.tape, hg.output, hg.size, fun i hi hn => hg.block i hi (fun e => hn (Option.some.inj e))⟩
end Go.Proofs.YtljmklohgpaopaaGreatDoor

namespace Go.Proofs.YtljmklohgpaopaaGreatDoor
open Go.RowKit Go.Maps Go.WideMaps
set_option linter.unusedSectionVars false
variable [Inhabited LoT]

/-- Refs keep their places. -/
def URefs (w w' : World) : Prop := ∀ r a v, RefAt w r a v → ∃ v', RefAt w' r a v' ∧ (v' = v ∨ v = .nilIface)
theorem URefs.trans {a b c : World} (h : URefs a b) (k : URefs b c) : URefs a c := fun r x v hr => by
  obtain ⟨v', h1, h2⟩ := h r x v hr
  obtain ⟨v2, k1, k2⟩ := k r x v' h1
  exact ⟨v2, k1, by rcases h2 with rfl | h2; exact k2; exact .inr h2⟩
def UFr (w w' : World) : Prop := SFr [168, 102] w w' ∧ URefs w w' ∧ (∀ (p : Addr) (s : Value), plainV s = true → w.cell? p = some s → w'.cell? p = some s) ∧ Only (fun k => LO ≤ k) w w'
theorem UFr.trans {a b c : World} (h : UFr a b) (k : UFr b c) : UFr a c := ⟨h.1.trans k.1, h.2.1.trans k.2.1, fun p s hs hc => k.2.2.1 p s hs (h.2.2.1 p s hs hc), h.2.2.2.trans' k.2.2.2⟩
theorem TFr.ufr {w w' : World} (h : TFr w w') : UFr w w' := ⟨h.sfr, h.refs, h.ev, h.low⟩
theorem UFr.of_map {b k : Nat} {js : List Nat} {w w' : World} (h : UsedAt w b k js) (hlb : LO ≤ b) (ho : Only (· = b) w w') : UFr w w' :=
  ⟨⟨_, ho, h.spare.mono (by simp)⟩, fun r a v hr => ⟨v, hr.sp ho h.spare (by simp), .inl rfl⟩, fun p s _ hc => ho.cell hc (fun e => by
    obtain ⟨D, ⟨es, clock, h1, h2⟩, h3⟩ := h
    unfold World.cell? at hc
    rw [e, h1] at hc
    cases hc), ho.mono (fun x _ hx => by rw [hx]; exact hlb)⟩
theorem UFr.of_below {w w' : World} (h : Below w.heap.size w w') : UFr w w' := (TFr.of_below h).ufr
/-- How used ends. -/
def UPost (E : TEnv) (b n : Nat) (rd : Int) (G : Gh) (js : List Nat) (w : World) (e : Ending) (w' : World) : Prop :=
  (∃ G' rd', e = .returned (.tuple #[]) ∧ TW E w' rd' G' ∧ Ext G G' ∧ UFr w w' ∧ RdK n rd rd' ∧ UsedAt w' b js.length js) ∨ (E.d.life = 0 ∧ e = tdied 3 ∧ (∃ rd', DiskAt w' E.m.g E.vD E.d rd') ∧ UFr w w')
def UsOk (E : TEnv) (b h : Nat) : Prop :=
  ∀ (t : Pl.Tr h) (s : Pl.ST h) (r deep : Nat) (lo : Pl.Key) (hi : Option Pl.Key) (w : World) (rd : Int) (G : Gh) (js : List Nat), TW E w rd G → G r = some ⟨h, t⟩ → Pl.PFit (decide (deep = 0)) h t → Pl.Spn h lo hi t → deep + h ≤ 64 → (∃ v, RefAt w r (Pl.top h s) v) → Pl.OnD E.D E.m.n h s t →
    js.length + (Pl.secsOf h s).length ≤ 50000 → UsedAt w b js.length js →
    Calls Tryz.prog 127 #[.pointer (some ⟨E.gT, 0, none⟩), refV r, spanV lo hi, .int .i64 (deep : Nat), .map (some b)] w (UPost E b (Pl.secsOf h s).length rd G (js ++ Pl.secsOf h s) w)
theorem TW.onDisk {E : TEnv} {w : World} {rd : Int} {G : Gh} {r h : Nat} {t : Pl.Tr h} {s : Pl.ST h} {v v' : Value} {a : Nat} (hw : TW E w rd G) (hn : E.m.n ≤ 4096) (hG : G r = some ⟨h, t⟩) (hk : Pl.Kids h t) (hD : Pl.OnD E.D E.m.n h s t) (hr : RefAt w r (Pl.top h s) v) (hr' : RefAt w r a v') (hv : v' ≠ .nilIface) :
    PgOk w G v' h t (some s) := by
  obtain ⟨_, hvv⟩ := hr.uniq hr'
  subst hvv
  rcases hw.inv r h t hG with ⟨x, h1, _⟩ | ⟨s2, x, h1, h2, _, h4⟩
  · have := (h1.uniq hr).1
    have := hD.bounds.1
    omega
  · obtain ⟨e1, e2⟩ := h1.uniq hr
    subst e2
    obtain rfl := Pl.OnD.unique (by omega) h s2 s t hk h2 hD e1
    rcases h4 with h4 | h4
    · exact absurd h4 hv
    · exact h4
theorem PgOk.form' {w : World} {G : Gh} {v : Value} {h : Nat} {t : Pl.Tr h} {so : Option (Pl.ST h)} (hp : PgOk w G v h t so) : v ≠ .nilIface := by
  cases h with
  | zero => obtain ⟨b, rfl, _⟩ := hp; intro e; cases e
  | succ h => obtain ⟨rs, ⟨b, rfl, _⟩, _⟩ := hp; intro e; cases e
set_option maxRecDepth 100000 in
set_option maxHeartbeats 8000000 in
theorem used_page (E : TEnv) (b : Nat) (hlb : LO ≤ b) (hn : E.m.n ≤ 4096) (h : Nat) (ih : ∀ h', h = h' + 1 → UsOk E b h') : UsOk E b h := by
  intro t s r deep lo hi w rd G js hw hG hft hs hd hr hD hl hU
  obtain ⟨vr, hr⟩ := hr
  obtain ⟨hb1, hb2⟩ := hD.bounds
  obtain ⟨tp, htp⟩ : ∃ x, Pl.top h s = x := ⟨_, rfl⟩
  rw [htp] at hb1 hb2
  have hrt : RefAt w r tp vr := htp ▸ hr
  obtain ⟨sl, hsl⟩ : ∃ s, tstr lo = s := ⟨_, rfl⟩
  obtain ⟨sh, hsh⟩ : ∃ s, tstr (hi.getD []) = s := ⟨_, rfl⟩
  obtain ⟨bn, hbn⟩ : ∃ b, hi.isNone = b := ⟨_, rfl⟩
  have es : spanV lo hi = .agg #[.string sl, .string sh, .bool bn] := by unfold spanV; rw [hsl, hsh, hbn]
  have ES := Lib.hid es
  obtain ⟨gs, hgs⟩ : ∃ g, w.heap.size = g := ⟨_, rfl⟩
  obtain ⟨w1, hw1⟩ : ∃ x, w.alloc (.cells #[.string sl, .string sh, .bool bn] 178) = x := ⟨_, rfl⟩
  have hbl : Below w.heap.size w w1 := by rw [← hw1]; exact (Below.refl _ _).alloc (Nat.le_refl _) _
  have B1 : Blk w1 gs 178 [.string sl, .string sh, .bool bn] := by rw [← hw1, ← hgs]; exact Blk.new w 178 _
  have hU1 : UsedAt w1 b js.length js := hU.sp (Only.of_below hbl (fun _ => False)) id
  have hlk := hU1.look tp (by omega)
  obtain ⟨w2, hrun, hU2, ho2⟩ := hU1.step tp (by omega) (by have : 0 < (Pl.secsOf h s).length := List.length_pos_of_mem (Pl.top_mem h s); omega) (by omega)
  obtain ⟨c, hc⟩ : ∃ c, js.count tp = c := ⟨_, rfl⟩
  have hcl : c ≤ 50000 := by rw [← hc]; have := List.count_le_length (a := tp) (l := js); omega
  rw [hc] at hlk hrun
  have hrb := hrt.below hbl hrt.lt
  obtain ⟨c0, c1, _, _⟩ := facts2 hrb
  have hwr : IntKind.i64.wrap ((c : Int) + 1) = (c : Int) + 1 := IntWalk.i64_in _ (by omega)
  have q0 : ((tp : Int) != 0) = true := by simp; omega
  have hw2 := (hw.below hbl).sp ho2 hU1.spare (by simp) (by simp) (by simp) (by simp) (by simp)
  have HPG := Lib.hid (page_any E r h deep t lo hi w2 rd G hw2 hG hft hs (by omega) hn)
  rw [es] at HPG ⊢
  unfold refV at HPG ⊢
  have HRT2 := Lib.hid (hrb.sp ho2 hU1.spare (by simp))
  have BS2 := Lib.hid (B1.sp ho2 hU1.spare (by simp))
  have HU2 := Lib.hid hU2
  have HF2 : Hid (UFr w w2) := (UFr.of_below hbl).trans (UFr.of_map hU1 hlb ho2)
  have HKD := Lib.hid (Pl.RFit.kids h t (Pl.PFit.root hft))
  have HFT := Lib.hid hft
  have HSP := Lib.hid hs
  have HDD := Lib.hid hD
  have HL := Lib.hid hl
  have HG := Lib.hid hG
  have HTP := Lib.hid htp
  obtain ⟨e0, e1, e2, _, _, _⟩ := facts3' BS2.out
  have hmL : ∀ (b : Nat) (W : World), (Instr.typeAssert (.iface 161 (.pointer (some ⟨b, 0, none⟩))) 166 180 true).run Tryz.prog W = .ok (.tuple #[.pointer none, .bool false]) W := fun b W => by kernel_rfl
  have hmI : ∀ (b : Nat) (W : World), (Instr.typeAssert (.iface 180 (.pointer (some ⟨b, 0, none⟩))) 166 180 true).run Tryz.prog W = .ok (.tuple #[.pointer (some ⟨b, 0, none⟩), .bool true]) W := fun b W => by kernel_rfl
  have hlen1 : (js ++ [tp]).length = js.length + 1 := by simp
  rw [← hlen1] at HU2
  clear hw hG hft hs hr hrt hD hl hU hU1 hU2 ho2 hbl B1 hrb hw2 es hsl hsh hbn htp hc hlen1
  go_enter Tryz.func127, Tryz.ntmps127
  go_wp2_with fail
  refine HPG.out.mono ?_
  rintro e w3 h3
  rcases h3 with ⟨v3, G3, rd3, rfl, hW3, hE3, hT3, hR3, hP3, a3, hA3⟩ | ⟨hal, rfl, ⟨rd5, hd5⟩, hT5⟩
  rotate_left
  · have HAL := Lib.hid hal
    have HD5 := Lib.hid hd5
    have HT5 := Lib.hid hT5
    clear hal hd5 hT5
    unfold tdied
    go_wp2_with fail
    exact ⟨rfl, .inr ⟨HAL.out, rfl, ⟨rd5, HD5.out⟩, HF2.out.trans HT5.out.ufr⟩⟩
  obtain ⟨vq, hq, _⟩ := hT3.refs _ _ _ HRT2.out
  have hP := hW3.onDisk hn (hE3 _ _ HG.out) HKD.out HDD.out (by rw [HTP.out]; exact hq) hA3 hP3.form'
  obtain ⟨F3, ho3, hk3⟩ := hT3.only
  have HU3 := Lib.hid (HU2.out.only ho3 hk3)
  have HW3 := Lib.hid hW3
  have HE3 := Lib.hid hE3
  have HF3 := Lib.hid (HF2.out.trans hT3.ufr)
  have HR3 := Lib.hid hR3
  have BS3 := Lib.hid (hT3.blk BS2.out (by decide) (by decide))
  clear hW3 hE3 hT3 hR3 hP3 hA3 hq ho3 hk3 e0 e1 e2
  cases h with
  | zero =>
    obtain ⟨bl, rfl, _⟩ := hP
    unfold leafV
    go_wp2_with fail
    go_end0
    have e9 : Pl.secsOf 0 s = [tp] := by rw [← HTP.out]; rfl
    refine .inl ⟨G3, rd3, rfl, HW3.out, HE3.out, HF3.out, ?_, ?_⟩
    · rw [e9]; exact HR3.out
    · rw [e9]; exact HU3.out
  | succ h =>
    obtain ⟨rs, ⟨bi, rfl, hi3⟩, hrl, hgk, hst⟩ := hP
    have hfit : Pl.Fit (h + 1) t := Pl.PFit.root HFT.out
    have hks := len_le_isz t.1
    have hklen : t.1.length ≤ 60 := by have := hfit.2.2.1; omega
    obtain ⟨N, hN⟩ : ∃ n, rs.length = n := ⟨_, rfl⟩
    have HRL : Hid (rs.length = N) := hN
    have HTL : Hid (t.2.length = N) := hrl.symm.trans hN
    have HSL : Hid (s.2.length = N) := HDD.out.2.2.2.1.trans HTL.out
    have HKL : Hid (t.1.length + 1 = N ∧ t.1.length ≤ 1000) := ⟨by have := hfit.1; have := HTL.out; omega, by omega⟩
    have hN61 : N ≤ 61 := by have := HKL.out.1; omega
    have HPG3 : Hid (PgAt w3 (innerV bi) (.inner t.1 rs)) := ⟨bi, rfl, hi3⟩
    have HGK := Lib.hid hgk
    have HST := Lib.hid (hst s rfl)
    have HFI := Lib.hid hfit
    obtain ⟨A, ca, A', ca', hbb, _, _, _, htr⟩ := hi3
    have HTR := Lib.hid htr
    obtain ⟨_, x1, _, _⟩ := facts2 hbb
    rw [hN] at x1
    have HTP' : Hid (s.1 = tp) := HTP.out
    clear hfit hks hklen hrl hgk hst hbb hN htr
    unfold innerV
    go_wp2_with fail
    go_loopw [41] (fun i wr => ∃ (j : Nat) (G' : Gh) (rd' : Int), j ≤ N ∧ i = .int .i64 (j : Int) ∧ Hid (TW E wr rd' G') ∧ Hid (Ext G3 G') ∧ Hid (UFr w3 wr) ∧ Hid (RdK (1 + ((s.2.take j).flatMap (Pl.secsOf h)).length) rd rd') ∧ Hid (UsedAt wr b (js ++ [tp] ++ (s.2.take j).flatMap (Pl.secsOf h)).length (js ++ [tp] ++ (s.2.take j).flatMap (Pl.secsOf h)))) (fun i _ => N - (intOf i).toNat)
    case atStart => exact ⟨0, G3, rd3, Nat.zero_le _, rfl, HW3.out, Ext.refl _, (TFr.refl w3).ufr, HR3.out, by simp only [List.take_zero, List.flatMap_nil, List.append_nil]; exact HU3.out⟩
    case round =>
      obtain ⟨j, G', rd', hj, rfl, HWr, HEr, HFr, HRr, HUr⟩ := hrel
      by_cases hjN : j < N
      · obtain ⟨rk, hrk⟩ : ∃ x, rs[j]? = some x := ⟨_, List.getElem?_eq_getElem (by rw [HRL.out]; exact hjN)⟩
        obtain ⟨ck, hck⟩ : ∃ x, t.2[j]? = some x := ⟨_, List.getElem?_eq_getElem (by rw [HTL.out]; exact hjN)⟩
        obtain ⟨ak, hak⟩ : ∃ x, s.2[j]? = some x := ⟨_, List.getElem?_eq_getElem (by rw [HSL.out]; exact hjN)⟩
        have hcfit := HFI.out.2.2.2.2 ck (List.mem_of_getElem? hck)
        have hcs := Pl.SpnK.at_ j ck HSP.out hck
        have hpg := HFr.out.1.pg HPG3.out (by decide)
        obtain ⟨bi', ebi, hir⟩ := hpg
        obtain rfl : bi = bi' := by unfold innerV at ebi; injection ebi with _ ebi; injection ebi with ebi; injection ebi with ebi; injection ebi
        have HKID := Lib.hid (kid_any lo hi bi t.1 rs j wr hir (by have := HKL.out.1; omega) HKL.out.2)
        rw [ES.out] at HKID
        have BSr := Lib.hid (HFr.out.1.blk BS3.out (by decide))
        obtain ⟨e0, e1, e2, _, _, _⟩ := facts3' BSr.out
        obtain ⟨bk, ok, rfl, g0⟩ := (HFr.out.1.tsrc HTR.out (by decide)).1.at_ _ _ (refs_at hrk)
        unfold refV at g0
        have q1 : (j : Int) < (N : Int) := by omega
        have hwd : IntKind.i64.wrap ((deep : Int) + 1) = (deep : Int) + 1 := IntWalk.i64_in _ (by omega)
        have hwj : IntKind.i64.wrap ((j : Int) + 1) = (j : Int) + 1 := IntWalk.i64_in _ (by omega)
        have htk : (s.2.take (j + 1)).flatMap (Pl.secsOf h) = (s.2.take j).flatMap (Pl.secsOf h) ++ Pl.secsOf h ak := by rw [List.take_add_one, hak]; simp
        have hall : s.2.flatMap (Pl.secsOf h) = (s.2.take (j + 1)).flatMap (Pl.secsOf h) ++ (s.2.drop (j + 1)).flatMap (Pl.secsOf h) := by rw [← List.flatMap_append, List.take_append_drop]
        have hlen : (js ++ [tp] ++ (s.2.take j).flatMap (Pl.secsOf h)).length + (Pl.secsOf h ak).length ≤ 50000 := by
          have h1 := HL.out
          have h2 : (Pl.secsOf (h + 1) s).length = 1 + (s.2.flatMap (Pl.secsOf h)).length := by show (s.1 :: s.2.flatMap (Pl.secsOf h)).length = _; rw [List.length_cons]; omega
          rw [h2, hall, htk] at h1
          simp only [List.length_append, List.length_cons, List.length_nil] at h1 ⊢
          omega
        have HTK := Lib.hid htk
        have HGR : Hid (G' rk = some ⟨h, ck⟩) := HEr.out _ _ (HGK.out j rk ck hrk hck)
        obtain ⟨pv, hpv⟩ := HST.out j rk ak hrk hak
        obtain ⟨pv', hpv', _⟩ := HFr.out.2.1 _ _ _ hpv
        have HPV := Lib.hid hpv'
        have HDK := Lib.hid (HDD.out.2.2.2.2 j ak ck hak hck)
        have HLN := Lib.hid hlen
        have HCF := Lib.hid hcfit
        have HCS := Lib.hid hcs
        clear hrk hck hak hcfit hcs htk hall hlen hpv hpv' hir
        go_wp2_with fail
        refine HKID.out.mono ?_
        rintro e w4 ⟨rfl, hb4⟩
        have HIH : Hid (Calls Tryz.prog 127 #[.pointer (some ⟨E.gT, 0, none⟩), .pointer (some ⟨rk, 0, none⟩), spanV (Pl.kLo lo t.1 j) (Pl.kHi hi t.1 j), .int .i64 ((deep : Int) + 1), .map (some b)] w4 (UPost E b (Pl.secsOf h ak).length rd' G' (js ++ [tp] ++ (s.2.take j).flatMap (Pl.secsOf h) ++ Pl.secsOf h ak) w4)) :=
          ih h rfl ck ak rk (deep + 1) _ _ w4 rd' G' _ (HWr.out.below hb4) HGR.out (by rw [decide_eq_false (by omega)]; exact HCF.out) HCS.out (by omega) ⟨pv', HPV.out.below hb4 HPV.out.lt⟩ HDK.out HLN.out (HUr.out.sp (Only.of_below hb4 (fun _ => False)) id)
        have HF4 := Lib.hid (HFr.out.trans (UFr.of_below hb4))
        clear hb4
        go_wp2_with fail
        refine HIH.out.mono ?_
        rintro e w5 h5
        rcases h5 with ⟨G5, rd5, rfl, hW5, hE5, hF5, hR5, hU5⟩ | ⟨hal, rfl, ⟨rd5, hd5⟩, hF5⟩
        rotate_left
        · have HAL := Lib.hid hal
          have HD5 := Lib.hid hd5
          have HF5 := Lib.hid hF5
          clear hal hd5 hF5
          unfold tdied
          go_wp2_with fail
          exact ⟨rfl, .inr ⟨HAL.out, rfl, ⟨rd5, HD5.out⟩, (HF3.out.trans HF4.out).trans HF5.out⟩⟩
        have HW5 := Lib.hid hW5
        have HE5 := Lib.hid hE5
        have HF5 := Lib.hid hF5
        have HR5 := Lib.hid hR5
        have HU5 := Lib.hid hU5
        clear hW5 hE5 hF5 hR5 hU5
        go_wp2_with fail
        refine ⟨⟨j + 1, G5, rd5, by omega, by go_num, HW5.out, HEr.out.trans HE5.out, HF4.out.trans HF5.out, ?_, ?_⟩, by simp [intOf]; omega⟩
        · rw [HTK.out, List.length_append]
          exact HRr.out.trans HR5.out (by omega)
        · rw [HTK.out, ← List.append_assoc]
          exact HU5.out
      · obtain rfl : j = N := by omega
        have q1 : decide ((j : Int) < (j : Int)) = false := decide_eq_false (by omega)
        go_wp2_with fail
        go_end0
        have e9 : Pl.secsOf (h + 1) s = [tp] ++ (s.2.take j).flatMap (Pl.secsOf h) := by
          rw [List.take_of_length_le (by rw [HSL.out]; omega), ← HTP'.out]; rfl
        refine .inl ⟨G', rd', rfl, HWr.out, HE3.out.trans HEr.out, HF3.out.trans HFr.out, ?_, ?_⟩
        · rw [e9, List.length_append]; exact HRr.out
        · rw [e9, ← List.append_assoc]; exact HUr.out
theorem used_any (E : TEnv) (b : Nat) (hlb : LO ≤ b) (hn : E.m.n ≤ 4096) : ∀ h, UsOk E b h
  | 0 => used_page E b hlb hn 0 (fun _ e => by cases e)
  | h + 1 => used_page E b hlb hn (h + 1) (fun h' e => by have e2 : h = h' := (by omega); subst e2; exact used_any E b hlb hn h)
end Go.Proofs.YtljmklohgpaopaaGreatDoor

namespace Go.Proofs.YtljmklohgpaopaaGreatDoor
open Go.RowKit Go.Maps Go.WideMaps
set_option linter.unusedSectionVars false
variable [Inhabited LoT]

/-- Pages keep what they have; refs get places. -/
def SRefs (w w' : World) : Prop := ∀ r a v, RefAt w r a v → ∃ a', RefAt w' r a' v ∧ (a ≠ 0 → a' = a)
theorem SRefs.trans {a b c : World} (h : SRefs a b) (k : SRefs b c) : SRefs a c := fun r x v hr => by
  obtain ⟨a', h1, h2⟩ := h r x v hr
  obtain ⟨a2, h3, h4⟩ := k r a' v h1
  exact ⟨a2, h3, fun hx => by have := h2 hx; subst this; exact h4 hx⟩
theorem SRefs.refl (w : World) : SRefs w w := fun r a v hr => ⟨a, hr, fun _ => rfl⟩
def saveT : List TypeId := [168, 102, 104, 3]
/-- What is still to be written becomes no more. -/
theorem FrN.settled {w w' : World} (hp : ∀ v pg, PgAt w v pg → PgAt w' v pg) (hr : SRefs w w') : ∀ (h : Nat) (t : Pl.Tr h) (r f : Nat), FrN w h t r f → ∃ f', f' ≤ f ∧ FrN w' h t r f'
  | 0, t, r, f, ⟨a, v, h1, h2⟩ => by
    obtain ⟨a', h3, h4⟩ := hr r a v h1
    by_cases h0 : a' = 0
    · refine ⟨f, Nat.le_refl _, a', v, h3, .inr ⟨h0, ?_⟩⟩
      rcases h2 with ⟨h5, _⟩ | ⟨_, h5⟩
      · exact absurd (h4 h5 ▸ h0) h5
      · exact h5
    · exact ⟨0, Nat.zero_le _, a', v, h3, .inl ⟨h0, rfl⟩⟩
  | h + 1, t, r, f, ⟨a, v, h1, h2⟩ => by
    obtain ⟨a', h3, h4⟩ := hr r a v h1
    by_cases h0 : a' = 0
    · rcases h2 with ⟨h5, _⟩ | ⟨_, rs, F, h5, h6, h7, h8⟩
      · exact absurd (h4 h5 ▸ h0) h5
      · have key : ∀ j : Nat, ∃ f', f' ≤ F j ∧ ∀ (x : Nat) (c : Pl.Tr h), rs[j]? = some x → t.2[j]? = some c → FrN w' h c x f' := fun j => by
          cases hx : rs[j]? with
          | none => exact ⟨0, Nat.zero_le _, fun x c e => by cases e⟩
          | some x =>
            cases hc : t.2[j]? with
            | none => exact ⟨0, Nat.zero_le _, fun x c _ e => by cases e⟩
            | some c =>
              obtain ⟨f', g1, g2⟩ := FrN.settled hp hr h c x (F j) (h8 j x c hx hc)
              exact ⟨f', g1, fun x' c' e1 e2 => by cases e1; cases e2; exact g2⟩
        refine ⟨1 + Sm (fun j => (key j).choose) rs.length, ?_, a', v, h3, .inr ⟨h0, rs, fun j => (key j).choose, hp _ _ h5, h6, rfl, fun j x c hx hc => (key j).choose_spec.2 x c hx hc⟩⟩
        have := Sm_le (F := fun j => (key j).choose) (H := F) (k := rs.length) (fun j _ => (key j).choose_spec.1)
        omega
    · exact ⟨0, Nat.zero_le _, a', v, h3, .inl ⟨h0, rfl⟩⟩
/-- A page lies in its place now. -/
theorem Inv.put {w w' : World} {G : Gh} {D D' : Nat → Option (List UInt8)} {n : Nat} {S S' : List Nat} (hi : Inv w G D n S) {r h : Nat} {t : Pl.Tr h} {s : Pl.ST h} {v : Value} (hr : RefAt w r 0 v) (hG : G r = some ⟨h, t⟩) (hp : PgOk w G v h t (some s)) (hr' : RefAt w' r (Pl.top h s) v)
    (hk : ∀ k a u, k ≠ r → RefAt w k a u → RefAt w' k a u) (hpg : ∀ u pg, PgAt w u pg → PgAt w' u pg) (hD : ∀ j ∈ S, D' j = D j) (hO : Pl.OnD D' n h s t) (hS : ∀ j ∈ S, j ∈ S') (hs : ∀ j ∈ Pl.secsOf h s, j ∈ S') : Inv w' G D' n S' := by
  have far : ∀ k a u, 2 ≤ a → RefAt w k a u → RefAt w' k a u := fun k a u ha hk' => hk k a u (fun e => by
    subst e
    have := (hk'.uniq hr).1
    omega) hk'
  have pgn : ∀ (k : Nat) (t : Pl.Tr k) (u : Value), PgOk w G u k t none → PgOk w' G u k t none := by
    intro k t u hp
    cases k with
    | zero => exact hpg _ (.leaf t) hp
    | succ k =>
      obtain ⟨rs, g1, g2, g3, _⟩ := hp
      exact ⟨rs, hpg _ _ g1, g2, g3, fun s hs => by cases hs⟩
  have pgs : ∀ (D0 : Nat → Option (List UInt8)) (k : Nat) (t : Pl.Tr k) (s : Pl.ST k) (u : Value), Pl.OnD D0 n k s t → PgOk w G u k t (some s) → PgOk w' G u k t (some s) := by
    intro D0 k t s u hd hp
    cases k with
    | zero => exact hpg _ (.leaf t) hp
    | succ k =>
      obtain ⟨rs, g1, g2, g3, g4⟩ := hp
      refine ⟨rs, hpg _ _ g1, g2, g3, fun s' hs' i x a hx ha => ?_⟩
      obtain ⟨pv, h5⟩ := g4 s' hs' i x a hx ha
      injection hs' with hs'
      subst hs'
      have hil : i < t.2.length := by have := (List.getElem?_eq_some_iff.1 ha).1; have := hd.2.2.2.1; omega
      have hb := (hd.2.2.2.2 i a _ ha (List.getElem?_eq_getElem hil)).bounds
      exact ⟨pv, far _ _ _ hb.1 h5⟩
  intro k h' t' hk'
  by_cases e : k = r
  · subst e
    rw [hG] at hk'
    injection hk' with hk'
    injection hk' with e1 e2
    subst e1
    obtain rfl := eq_of_heq e2
    exact .inr ⟨s, v, hr', hO, hs, .inr (pgs D' _ _ _ _ hO hp)⟩
  · rcases hi k h' t' hk' with ⟨u, g1, g2⟩ | ⟨s2, u, g1, g2, g3, g4⟩
    · exact .inl ⟨u, hk _ _ _ e g1, pgn _ _ _ g2⟩
    · exact .inr ⟨s2, u, hk _ _ _ e g1, g2.congr _ _ _ (fun j hj => hD j (g3 j hj)), fun j hj => hS j (g3 j hj), g4.imp id (pgs D _ _ _ _ g2)⟩
end Go.Proofs.YtljmklohgpaopaaGreatDoor

namespace Go.Proofs.YtljmklohgpaopaaGreatDoor
namespace Pl

theorem alive_of {d : Dk} (h : d.life < 0) : d.alive = true := by unfold Dk.alive; simp [h]
theorem change_of {d : Dk} (h : d.life < 0) (c : Ch) : d.change c = { d with secs := c.on d.secs } := by
  have h0 : ¬ 0 < d.life := by omega
  simp [Dk.change, Dk.tick, alive_of h, h0]
theorem run_of {d : Dk} (h : d.life < 0) (l : List Ch) : d.run l = ({ d with secs := l.foldl (fun s c => c.on s) d.secs }, true) := by
  induction l generalizing d with
  | nil => rfl
  | cons c r ih =>
    rw [Dk.run_cons, alive_of h, if_pos rfl, change_of h, ih (by exact h)]
    rfl
/-- All sectors can be read, and are of their size. -/
def Sound (s : List Sec) : Prop := ∀ x ∈ s, x.now.length = 256 ∧ x.broken = false
theorem flush_now (s : Sec) : s.flush.now = s.now ∧ s.flush.broken = s.broken := by
  unfold Sec.flush
  split <;> exact ⟨rfl, rfl⟩
theorem Sound.look {d : Dk} (h : Sound d.secs) (i : Nat) (hi : i < d.secs.length) : ∃ s, d.look i = some s ∧ s.length = 256 := by
  have := h _ (List.getElem_mem hi)
  refine ⟨d.secs[i].now, ?_, this.1⟩
  unfold Dk.look
  rw [List.getElem?_eq_getElem hi]
  simp [this.2]
theorem look_wr (s : List Sec) (life : Int) (i j : Nat) (t : List UInt8) (hi : i < s.length) : (Dk.mk (Ch.on (.wr i t) s) life).look j = if i = j then some (t ++ zeros (256 - t.length)) else (Dk.mk s life).look j := by
  unfold Dk.look
  simp only [Ch.on, List.getElem?_modify]
  by_cases h : i = j
  · subst h
    rw [List.getElem?_eq_getElem hi]
    simp [Sec.put]
  · cases s[j]? <;> simp [h]
theorem look_sy (s : List Sec) (life : Int) (j : Nat) : (Dk.mk (Ch.on .sy s) life).look j = (Dk.mk s life).look j := by
  unfold Dk.look
  simp only [Ch.on, List.getElem?_map]
  cases s[j]? with
  | none => rfl
  | some x => simp [(flush_now x).1, (flush_now x).2]

structure LogOk (d : Dk) (l : Lg) : Prop where
  live : d.life < 0
  sound : Sound d.secs
  room : l.first + 2 + l.data ≤ d.secs.length
  data : 2 ≤ l.data ∧ l.data < 4294967296
  ep : 1 ≤ l.epoch ∧ l.epoch < 256 ^ 8
  slots : max (slotOf (d.look l.first)) (slotOf (d.look (l.first + 1))) = l.epoch
  next : l.next = (flat l.all).length
  fit : l.next ≤ l.data
  small : ∀ p ∈ l.all, 1 ≤ p.length ∧ p.length ≤ 2000
  laid : ∀ i m c, (flat l.all)[i]? = some (m, c) → d.look (l.first + 2 + i) = some (pieceText l.epoch i m c ++ zeros (256 - (pieceText l.epoch i m c).length))
  clean : ∀ i s, l.next ≤ i → i < l.data → d.look (l.first + 2 + i) = some s → ownOf l.epoch s = false
  old : ∀ i s, i < l.data → d.look (l.first + 2 + i) = some s → s.headD 0 = 76 → num ((s.drop 1).take 8) ≤ l.epoch
  bad : l.bad = false

theorem map_split (f : Nat → Option (List UInt8)) (a n : Nat) (h : a ≤ n) : (List.range n).map f = (List.range a).map f ++ (List.range (n - a)).map (fun i => f (a + i)) := by
  conv => lhs; rw [show n = a + (n - a) by omega, List.range_add]
  rw [List.map_append, List.map_map]
  rfl
theorem texts_get (e : Nat) (l : List (Bool × List UInt8)) : ∀ (j i : Nat) (m : Bool) (c : List UInt8), l[i]? = some (m, c) → (texts e j l)[i]? = some (some (pieceText e (j + i) m c ++ zeros (256 - (pieceText e (j + i) m c).length))) := by
  induction l with
  | nil => intro j i m c h; simp at h
  | cons a r ih =>
    intro j i m c h
    obtain ⟨m', c'⟩ := a
    match i with
    | 0 => simp at h; obtain ⟨rfl, rfl⟩ := h; rfl
    | i + 1 =>
      rw [texts, List.getElem?_cons_succ, ih (j + 1) i m c (by simpa using h), show j + 1 + i = j + (i + 1) by omega]

theorem LogOk.reads {d : Dk} {l : Lg} (h : LogOk d l) : (List.range l.data).map (fun i => d.look (l.first + 2 + i)) = texts l.epoch 0 (flat l.all) ++ (List.range (l.data - l.next)).map (fun i => d.look (l.first + 2 + (l.next + i))) := by
  rw [map_split _ l.next l.data h.fit]
  congr 1
  apply List.ext_getElem?
  intro i
  by_cases hi : i < l.next
  · have hl : i < (flat l.all).length := by rw [← h.next]; exact hi
    rcases hp : (flat l.all)[i] with ⟨m, c⟩
    have hg : (flat l.all)[i]? = some (m, c) := by rw [List.getElem?_eq_getElem hl, hp]
    rw [texts_get _ _ 0 i m c hg, List.getElem?_map, List.getElem?_range hi]
    simp only [Option.map_some, Nat.zero_add]
    rw [h.laid i m c hg]
  · rw [List.getElem?_eq_none (by simp; omega), List.getElem?_eq_none (by rw [texts_length, ← h.next]; omega)]
theorem LogOk.scans {d : Dk} {l : Lg} (h : LogOk d l) : scan l.epoch ((List.range l.data).map (fun i => d.look (l.first + 2 + i))) 0 [] [] 0 = (l.all, l.next) := by
  have hd := h.data
  have hf := h.fit
  rw [h.reads, scan_all l.epoch h.ep.2 _ l.all 0 [] (by rw [← h.next]; omega) (fun p hp => (h.small p hp).2), scan_stop, List.nil_append, Nat.zero_add, ← h.next]
  intro s hs
  rw [List.getElem?_map] at hs
  by_cases hz : 0 < l.data - l.next
  · rw [List.getElem?_range hz] at hs
    simp at hs
    exact h.clean l.next s (Nat.le_refl _) (by omega) hs
  · rw [List.getElem?_eq_none (by simp; omega)] at hs
    cases hs
theorem LogOk.opens {d : Dk} {l : Lg} (h : LogOk d l) : openLog d l.first (l.data + 2) = (d, .inr l) := by
  have hl := h.live
  have he := h.ep
  unfold openLog
  rw [if_neg (by omega)]
  simp only [h.slots, Nat.add_sub_cancel]
  rw [if_neg (by omega), h.scans]
  have hst : stale d l.epoch l.first l.next l.data = [] := by
    unfold stale
    rw [List.map_eq_nil_iff, List.filter_eq_nil_iff]
    intro i hi
    simp only [decide_eq_true_eq, not_and]
    intro hn ho
    cases hk : d.look (l.first + 2 + i) with
    | none => rw [hk] at ho; simp at ho
    | some s =>
      have := h.clean i s hn (by simpa using hi) hk
      rw [hk] at ho
      simp [this] at ho
  simp only [hst, cleaned, List.isEmpty_nil, if_true, Dk.run_nil]
  have hb := h.bad
  cases l
  simp at hb
  simp [hb]

end Pl
end Go.Proofs.YtljmklohgpaopaaGreatDoor
