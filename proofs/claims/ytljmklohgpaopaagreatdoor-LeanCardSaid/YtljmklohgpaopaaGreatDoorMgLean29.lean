/- A tree: what a save leaves on the disk; a tree that was opened. The small functions of the harness; how many reads a disk had. Plain: the pairs of Lean's tree; how deep it is. No program in sight. Lean: the walk. Lean: Save; Value. -/
import Derived.Test.YtljmklohgpaopaaGreatDoorMgLean28
import Derived.Test.YtljmklohgpaopaaGreatDoorMgLean5
import Derived.Test.YtljmklohgpaopaaGreatDoorMgLean7
import Derived.Test.YtljmklohgpaopaaGreatDoorMgLean4
set_option linter.unusedVariables false
set_option linter.unusedSimpArgs false

namespace Go.Proofs.YtljmklohgpaopaaGreatDoor
open Go.RowKit
set_option linter.unusedSectionVars false
variable [Inhabited LoT]

theorem Pl.dcount_nil (n : Nat) : Pl.dcount n [] = 0 := by simp [Pl.dcount]
theorem Pl.dcount_len (n : Nat) : ∀ js : List Nat, Pl.dcount n js ≤ js.length
  | [] => by rw [Pl.dcount_nil]; exact Nat.zero_le _
  | j :: js => by
    have h1 : Pl.dcount n (j :: js) = Pl.dcount n (js ++ [j]) := by
      unfold Pl.dcount
      apply List.countP_congr
      intro x _
      simp [or_comm]
    rw [h1, Pl.dcount_step, List.length_cons]
    have := Pl.dcount_len n js
    split <;> omega
theorem slots_saved {d d1 d2 : Pl.Dk} {first n seq h : Nat} {js : List Nat} {l : List Pl.Ch} {s : Pl.ST h} {t : Pl.Tr h} (hl : FreeW first js l) (h1 : d.run (l ++ [.sy]) = (d1, true)) (hO : Pl.OnD (fun j => d1.look (first + j)) n h s t)
    (h2 : d1.run [.wr (first + (seq + 1) % 2) (slotT (seq + 1) (Pl.top h s) (Pl.dcount n (Pl.secsOf h s))), .sy] = (d2, true)) (hold : ∀ x, d.look (first + seq % 2) = some x → x.headD 0 = 84 → Pl.num ((x.drop 1).take 8) < seq + 1) (hq : seq + 1 < 18446744073709551616) (hf : first + n ≤ d.secs.length) (hn : 2 ≤ n) :
    SlotOk d2 first n (seq + 1) (Pl.top h s) (Pl.dcount n (Pl.secsOf h s)) ∧ Pl.OnD (fun j => d2.look (first + j)) n h s t ∧ d2.secs.length = d.secs.length := by
  have hlen : d1.secs.length = d.secs.length := by have := run_len (l ++ [.sy]) d; rw [h1] at this; exact this
  obtain ⟨tx, htx⟩ : ∃ x, slotT (seq + 1) (Pl.top h s) (Pl.dcount n (Pl.secsOf h s)) = x := ⟨_, rfl⟩
  rw [htx, Pl.Dk.run_cons] at h2
  by_cases ha : d1.alive = true
  · rw [if_pos ha, Pl.Dk.run_cons] at h2
    by_cases hb : (d1.change (.wr (first + (seq + 1) % 2) tx)).alive = true
    · rw [if_pos hb, Pl.Dk.run_nil] at h2
      injection h2 with h2 _
      have lk : ∀ j, j ≠ (seq + 1) % 2 → d2.look (first + j) = d1.look (first + j) := fun j hj => by
        rw [← h2, look_sync, look_off _ _ _ _ (by omega)]
      have hbd := hO.bounds
      refine ⟨⟨?_, fun x hx => ?_, by omega, hq, hbd.1, hbd.2, Pl.dcount_pos (Pl.top_mem h s) hbd.2, Pl.dcount_le _ _⟩, hO.congr _ _ _ (fun j hj => lk j (by have := (hO.all _ _ _ j hj).1; omega)), by rw [← h2, tchange_length, tchange_length, hlen]⟩
      · rw [← h2, look_sync, tchange_look ha (by omega), if_pos rfl, ← htx]
        rfl
      · have e : (seq + 1 + 1) % 2 = seq % 2 := by omega
        rw [e, lk _ (by omega), FreeW.look hl.sy h1 (seq % 2) (.inl (by omega))] at hx
        exact hold x hx
    · rw [if_neg hb] at h2
      injection h2 with _ h2
      cases h2
  · rw [if_neg ha] at h2
    injection h2 with _ h2
    cases h2
/-- A tree that was made may be opened. -/
theorem CrPost.opens {g : Nat} {vD : Value} {d : Pl.Dk} {rd : Int} {first n : Nat} {w w' : World} (h : CrPost g vD d rd first n w w') (hl : d.life < 0) (hf : first + n ≤ d.secs.length) (hn : 16 ≤ n) :
    ∃ (d' : Pl.Dk) (s : Pl.ST 0) (rd' : Int), DiskAt w' g vD d' rd' ∧ d'.life < 0 ∧ d'.secs.length = d.secs.length ∧ SlotOk d' first n 1 (Pl.top 0 s) (Pl.dcount n (Pl.secsOf 0 s)) ∧ Pl.OnD (fun j => d'.look (first + j)) n 0 s ([] : List Pl.Pr) ∧ RdK 100000 rd rd' ∧ ∃ d0 : Pl.Dk, d0.life < 0 ∧ d' = d0.change .sy := by
  obtain ⟨_, _, l, d1, s, rd', h1, h2, h3, h4, h5⟩ := h
  have hb1 : (d.change (.wr (first + 0) [])).life < 0 := by rw [change_life hl]; exact hl
  have hb2 : ((d.change (.wr (first + 0) [])).change (.wr (first + 1) [])).life < 0 := by rw [change_life hb1]; exact hb1
  have hb3 : (begun d first).life < 0 := by unfold begun; rw [change_life hb2]; exact hb2
  have hbl : (begun d first).secs.length = d.secs.length := by unfold begun; rw [tchange_length, tchange_length, tchange_length]
  have hd1 : d1.life < 0 := by have := run_life hb3 (l ++ [.sy]); rw [h2] at this; rw [show d1.life = (begun d first).life from this]; exact hb3
  have hd2 : (d1.change (.wr (first + 1) (slotT 1 (Pl.top 0 s) (Pl.dcount n (Pl.secsOf 0 s))))).life < 0 := by rw [change_life hd1]; exact hd1
  obtain ⟨k1, k2, k3⟩ := slots_saved (seq := 0) h1 h2 h3 (by
      show d1.run [.wr (first + 1) (slotT 1 (Pl.top 0 s) (Pl.dcount n (Pl.secsOf 0 s))), .sy] = _
      rw [Pl.Dk.run_cons, if_pos (Pl.alive_of hd1), Pl.Dk.run_cons, if_pos (Pl.alive_of hd2), Pl.Dk.run_nil])
    (fun x hx hh => by
      have e : (begun d first).look (first + 0 % 2) = some ([] ++ Pl.zeros (256 - ([] : List UInt8).length)) := by
        unfold begun
        rw [look_sync, look_off _ _ _ _ (by omega), show first + 0 % 2 = first + 0 from rfl, tchange_look (Pl.alive_of hl) (by omega), if_pos rfl]
      rw [e] at hx
      injection hx with hx
      rw [← hx] at hh
      exact absurd hh (by decide)) (by decide) (by omega) (by omega)
  exact ⟨_, s, rd', h4, by rw [change_life hd2]; exact hd2, by rw [k3, hbl], k1, k2, h5, _, hd2, rfl⟩
/-- The tree that was opened. -/
def opEnv (gT g first n : Nat) (vD : Value) (d : Pl.Dk) (seq p r h : Nat) (s : Pl.ST h) : TEnv := ⟨gT, ⟨g, first, n, r, some r, seq, p, false⟩, vD, d, Pl.secsOf h s⟩
theorem OpdPost.env {gT g first n : Nat} {vD : Value} {d : Pl.Dk} {rd : Int} {seq a p r : Nat} {w w' : World} (hp : OpdPost gT g first n vD d rd seq a p r w w') {h : Nat} {s : Pl.ST h} {t : Pl.Tr h} (hO : Pl.OnD (fun j => d.look (first + j)) n h s t) (ha : Pl.top h s = a) (hp2 : p = Pl.dcount n (Pl.secsOf h s)) (hok : Pl.RootOk ⟨h, t⟩) (hh : h ≤ 62) (hf : first + n ≤ d.secs.length) (hlo : LO ≤ w.heap.size) (hld : ∀ k, dF g vD k → LO ≤ k) :
    ∃ rd', RdK 2 rd rd' ∧ TW (opEnv gT g first n vD d seq p r h s) w' rd' (opGh r h t) ∧ opGh r h t r = some ⟨h, t⟩ ∧ FrN w' h t r 0 ∧ SavedAt (opEnv gT g first n vD d seq p r h s) w' (opGh r h t) (Pl.secsOf h s) := by
  obtain ⟨h1, h2, h3, h4, ⟨rd', h5, h6⟩, h7⟩ := hp
  rw [← ha] at h4
  have hG : opGh r h t r = some ⟨h, t⟩ := if_pos rfl
  refine ⟨rd', h6, ⟨h3, h5, fun k h' t' hk => ?_, hf, ⟨fun k x hk => ?_, hld, Nat.le_trans hlo h1⟩⟩, hG, ?_, .inr ⟨r, h, t, s, .nilIface, rfl, hG, hok, hh, h4, hO, rfl, hp2⟩⟩
  · unfold opGh at hk
    by_cases e : k = r
    · rw [if_pos e] at hk
      injection hk with hk
      injection hk with e1 e2
      subst e1
      obtain rfl := eq_of_heq e2
      subst e
      exact .inr ⟨s, .nilIface, h4, hO, fun j hj => hj, .inl rfl⟩
    · rw [if_neg e] at hk; cases hk
  · unfold opGh at hk
    by_cases e : k = r
    · rw [e]; exact Nat.le_trans hlo h2
    · rw [if_neg e] at hk; cases hk
  · have hb := hO.bounds
    cases h with
    | zero => exact ⟨_, _, h4, .inl ⟨by omega, rfl⟩⟩
    | succ h => exact ⟨_, _, h4, .inl ⟨by omega, rfl⟩⟩
theorem EvAt.tft {gT : Nat} {m : Tm} {w w' : World} (h : EvAt w) (hT : TmAt w gT m) (hf : TFt gT w w') : EvAt w' := by
  have hne : 0 ≠ gT := fun e => by
    subst e
    have h1 : some (Value.pointer (some ⟨m.g, 0, none⟩)) = some (.string (tstr [])) := Eq.trans (Eq.symm (hT.cell 0)) h.1
    cases h1
  exact ⟨hf.ev _ _ hne rfl h.1, hf.ev _ _ hne rfl h.2.1, hf.ev _ _ hne rfl h.2.2⟩
theorem SavedAt.refs {E : TEnv} {w w' : World} {G G' : Gh} {js : List Nat} (h : SavedAt E w G js) (hG : Ext G G') (hr : ∀ r a v, RefAt w r a v → ∃ v', RefAt w' r a v' ∧ (v' = v ∨ v = .nilIface)) (r : Nat) : SavedAt (E.to r) w' G' js := by
  rcases h with h | ⟨rs, hs, ts, ss, v, h1, h2, h3, h4, h5, h6, h7, h8⟩
  · exact .inl h
  · obtain ⟨v', h9, _⟩ := hr _ _ _ h5
    exact .inr ⟨rs, hs, ts, ss, v', h1, hG _ _ h2, h3, h4, h9, h6, h7, h8⟩
end Go.Proofs.YtljmklohgpaopaaGreatDoor

namespace Go.Proofs.YtljmklohgpaopaaGreatDoor
open Go.RowKit

def pickOf (c n : Int) : Int := (if c < 0 then -(c + 1) else c) % n
set_option maxHeartbeats 1000000 in
theorem kpick_any (c : Int) (n : Int) (w : World) (hc : -9223372036854775808 ≤ c ∧ c ≤ 9223372036854775807) (hn : 1 ≤ n ∧ n ≤ 1000000) :
    Calls Tryz.prog 16 #[.int .i64 c, .int .i64 n] w fun e w' => e = .returned (.int .i64 (pickOf c n)) ∧ w = w' := by
  unfold pickOf
  by_cases h : c < 0
  · rw [if_pos h]
    have hm : (-(c + 1)).tmod n = (-(c + 1)) % n := Int.tmod_eq_emod_of_nonneg (by omega)
    go_enter Tryz.func16, Tryz.ntmps16
    go_wp2_with fail
    go_ret
    exact ⟨rfl, rfl⟩
  · rw [if_neg h]
    have hm : c.tmod n = c % n := Int.tmod_eq_emod_of_nonneg (by omega)
    go_enter Tryz.func16, Tryz.ntmps16
    go_wp2_with fail
    go_ret
    exact ⟨rfl, rfl⟩

theorem fine_any (k : Int) (w : World) :
    Calls Tryz.prog 20 #[errA k ⟨#[]⟩] w fun e w' => e = .returned (.bool (k == 0)) ∧ Below w.heap.size w w' := by
  have q := eql_err
  unfold errA
  go_enter Tryz.func20, Tryz.ntmps20
  go_wp2_with fail
  go_ret
  refine ⟨?_, (Below.refl _ _).alloc (Nat.le_refl _) _⟩
  simp
set_option maxHeartbeats 1000000 in
theorem reads_any (g : Nat) (v : Value) (d : Pl.Dk) (rd : Int) (w : World) (h : DiskAt w g v d rd) :
    Calls Tryz.prog 25 #[.pointer (some ⟨g, 0, none⟩)] w fun e w' => e = .returned (.int .i64 rd) ∧ w = w' := by
  obtain ⟨wr, sy, hb⟩ := h.blk
  have c2 : w.cell? ⟨g, 2, none⟩ = some (.int .i64 rd) := hb.cell 2
  clear h hb
  go_enter Tryz.func25, Tryz.ntmps25
  go_wp2_with fail
  go_ret
  exact ⟨rfl, rfl⟩
end Go.Proofs.YtljmklohgpaopaaGreatDoor

namespace Go.Proofs.YtljmklohgpaopaaGreatDoor
namespace Pl

theorem mem_getL {ps : List Pr} (hs : Srt ps) {p : Pr} (hp : p ∈ ps) : getL p.key ps = some p.val := by
  obtain ⟨A, B, rfl⟩ := List.append_of_mem hp
  have h1 := List.pairwise_append.1 hs
  have hA : ∀ q ∈ A, q.key < p.key := fun q hq => h1.2.2 q hq p (by simp)
  have hpl : placeOf (A ++ p :: B) p.key = A.length := by
    rw [placeOf_append hA]
    unfold placeOf
    rw [List.takeWhile_cons, if_neg (by simp)]
    rfl
  unfold getL
  rw [hpl, List.getElem?_append_right (Nat.le_refl _), Nat.sub_self]
  simp
theorem mem_putL_self (k v : Key) (ps : List Pr) : (⟨k, v⟩ : Pr) ∈ putL k v ps := by rw [putL_eq]; simp
theorem mem_putL {k v : Key} {ps : List Pr} {p : Pr} (hp : p ∈ ps) (hne : p.key ≠ k) : p ∈ putL k v ps := by
  rw [putL_eq]
  have h0 : p ∈ ps.take (placeOf ps k) ++ ps.drop (placeOf ps k) := by rw [List.take_append_drop]; exact hp
  rcases List.mem_append.1 h0 with h | h
  · exact List.mem_append_left _ h
  · refine List.mem_append_right _ (List.mem_cons_of_mem _ ?_)
    unfold restOf
    cases hq : ps[placeOf ps k]? with
    | none => exact h
    | some q =>
      dsimp only
      by_cases he : q.key = k
      · rw [if_pos he]
        obtain ⟨j, hj⟩ := List.mem_iff_getElem?.1 h
        rw [List.getElem?_drop] at hj
        cases j with
        | zero => rw [Nat.add_zero, hq] at hj; injection hj with hj; exact absurd (hj ▸ he) hne
        | succ j => exact List.mem_iff_getElem?.2 ⟨j, by rw [List.getElem?_drop]; rw [show placeOf ps k + 1 + j = placeOf ps k + (j + 1) by omega]; exact hj⟩
      · rw [if_neg he]; exact h
/-- The tree when so many keys are put, all with one value. -/
def grown (v : Key) : List Key → Any → Any
  | [], x => x
  | k :: r, x => grown v r (newRoot (putL k v) k x)
structure Grown (v : Key) (ks : List Key) (x : Any) : Prop where
  ok : RootOk x
  len : x.prs.length ≤ ks.length
  has : ∀ k ∈ ks, (⟨k, v⟩ : Pr) ∈ x.prs
theorem Grown.put {v k : Key} {ks : List Key} {x : Any} (h : Grown v ks x) (hk : KeyFit k) (hv : v.length ≤ 100) : Grown v (ks ++ [k]) (newRoot (putL k v) k x) := by
  refine ⟨put_ok hk hv h.ok, ?_, fun y hy => ?_⟩
  · rw [put_prs h.ok, List.length_append]
    have := putL_len k v x.prs
    have := h.len
    simp
    omega
  · rw [put_prs h.ok]
    by_cases e : y = k
    · subst e; exact mem_putL_self _ _ _
    · rcases List.mem_append.1 hy with hy | hy
      · exact mem_putL (h.has y hy) e
      · exact absurd (List.mem_singleton.1 hy) e
theorem RootOk.small {x : Any} (h : RootOk x) {n : Nat} (hn : x.prs.length ≤ n) (h1 : 1 ≤ n) : pgs x.1 x.2 ≤ 2 * n ∧ 2 ^ x.1 ≤ n := by
  obtain ⟨k, t⟩ := x
  cases k with
  | zero => exact ⟨by show 1 ≤ _; omega, by simpa using h1⟩
  | succ k =>
    have hf : Fit (k + 1) t := h.1
    have h2 := Fit.pages _ _ hf
    have h3 := Fit.many _ _ hf
    have h4 : (prs (k + 1) t).length ≤ n := hn
    exact ⟨by show pgs (k + 1) t ≤ _; omega, by show 2 ^ (k + 1) ≤ n; omega⟩
theorem low_height {h n : Nat} (h1 : 2 ^ h ≤ n) (hn : n ≤ 1000) : h ≤ 9 := by
  rcases Nat.lt_or_ge h 10 with h2 | h2
  · omega
  · have := Nat.pow_le_pow_right (show 0 < 2 by omega) h2
    omega
end Pl
end Go.Proofs.YtljmklohgpaopaaGreatDoor

namespace Go.Proofs.YtljmklohgpaopaaGreatDoor
open Go.RowKit
set_option linter.unusedSectionVars false
variable [Inhabited LoT]

theorem keyL_len (n : Nat) : (keyL n).length = 23 := rfl
theorem keyL_fit (n : Nat) : Pl.KeyFit (keyL n) := ⟨by rw [keyL_len]; omega, by rw [keyL_len]; omega⟩
/-- The i-th key. -/
def keyI (B i : Nat) : Pl.Key := keyL (i * B % 9973)
/-- What stands while the tree grows. -/
structure LnAt (gT g : Nat) (vD : Value) (d : Pl.Dk) (p r0 : Nat) (s0 : Pl.ST 0) (Z B k : Nat) (be bf : Nat) (A : Option Addr) (w0 w : World) (r : Nat) (rd : Int) : Prop where
  tw : ∃ (G : Gh) (h : Nat) (t : Pl.Tr h) (fr : Nat), TW ((opEnv gT g 0 4096 vD d 1 p r0 0 s0).to r) w rd G ∧ G r = some ⟨h, t⟩ ∧ Pl.Grown (Pl.zeros Z) ((List.range k).map (keyI B)) ⟨h, t⟩ ∧ FrN w h t r fr ∧ fr + p + 2 ≤ 4096 ∧ SavedAt ((opEnv gT g 0 4096 vD d 1 p r0 0 s0).to r) w G (Pl.secsOf 0 s0) ∧ G r0 = some ⟨0, ([] : List Pl.Pr)⟩
  rd : 0 ≤ rd ∧ rd ≤ 1000000 + 100 * k
  ev : EvAt w
  ge : GE w
  e : ∃ k : Int, Blk w be 28 [.int .i64 k, .string ⟨#[]⟩, .bool true]
  f : Blk w bf 28 [.int .i64 0, .string ⟨#[]⟩, .bool true]
  v : BytesAt w A (Pl.zeros Z)
  vt : ∀ q, A = some q → Typ w q.block 5
  low : Below w0.heap.size w0 w
theorem LnAt.below {gT g : Nat} {vD : Value} {d : Pl.Dk} {p r0 : Nat} {s0 : Pl.ST 0} {Z B k be bf : Nat} {A : Option Addr} {w0 w w' : World} {r : Nat} {rd : Int} (h : LnAt gT g vD d p r0 s0 Z B k be bf A w0 w r rd) (hb : Below w.heap.size w w') : LnAt gT g vD d p r0 s0 Z B k be bf A w0 w' r rd := by
  obtain ⟨G, ht, t, fr, h1, h2, h3, h4, h5, h6, h7⟩ := h.tw
  obtain ⟨k', he⟩ := h.e
  exact ⟨⟨G, ht, t, fr, h1.below hb, h2, h3, FrN.u (fun v pg hp => hp.below hb) (UFr.of_below hb).2.1 ht t _ _ h4, h5, h6.below hb, h7⟩, h.rd, h.ev.tfr (TFr.of_below hb), h.ge.below hb, ⟨k', he.below hb he.lt⟩, h.f.below hb h.f.lt, h.v.keep hb, fun q hq => (h.vt q hq).only (Only.of_below hb (fun _ => False)) (ts := []) (fun _ h => h.elim) (by simp), h.low.trans (hb.mono h.low.size)⟩
theorem LnAt.put {gT g : Nat} {vD : Value} {d : Pl.Dk} {p r0 : Nat} {s0 : Pl.ST 0} {Z B k be bf : Nat} {A : Option Addr} {w0 w : World} {r : Nat} {rd : Int} (h : LnAt gT g vD d p r0 s0 Z B k be bf A w0 w r rd) (hlo : LO = w0.heap.size) (hl : d.life < 0) (hp1 : p ≤ 1) (hk : k < 1000) (hZ : Z ≤ 100) (Ak : Option Addr) (ck cz : Nat) (hA : BytesAt w Ak (keyI B k)) :
    Calls Tryz.prog 21 #[.pointer (some ⟨gT, 0, none⟩), .slice Ak 23 ck, .slice A Z cz] w fun e w' => e = .returned (errA 0 ⟨#[]⟩) ∧ ∃ r' rd', LnAt gT g vD d p r0 s0 Z B (k + 1) be bf A w0 w' r' rd' := by
  obtain ⟨G, ht, t, fr, h1, h2, h3, h4, h5, h6, h7⟩ := h.tw
  have hkl : ((List.range k).map (keyI B)).length = k := by simp
  have hvl : (Pl.zeros Z).length = Z := by simp [Pl.zeros]
  have hsm := Pl.RootOk.small h3.ok (n := k + 1) (by have := h3.len; rw [hkl] at this; omega) (by omega)
  have hht : ht ≤ 9 := Pl.low_height hsm.2 (by omega)
  have hgr := h3.put (keyL_fit (k * B % 9973)) (show (Pl.zeros Z).length ≤ 100 by rw [hvl]; exact hZ)
  have hrl : (List.range k).map (keyI B) ++ [keyL (k * B % 9973)] = (List.range (k + 1)).map (keyI B) := by rw [List.range_succ, List.map_append]; rfl
  rw [hrl] at hgr
  have hkl1 : ((List.range (k + 1)).map (keyI B)).length = k + 1 := by simp
  obtain ⟨x, hx⟩ : ∃ x, Pl.newRoot (Pl.putL (keyL (k * B % 9973)) (Pl.zeros Z)) (keyL (k * B % 9973)) ⟨ht, t⟩ = x := ⟨_, rfl⟩
  rw [hx] at hgr
  have hsm2 := Pl.RootOk.small hgr.ok (n := k + 1) (by have := hgr.len; rw [hkl1] at this; exact this) (by omega)
  have hput := pput_any ((opEnv gT g 0 4096 vD d 1 p r0 0 s0).to r) Ak A ck cz (keyL (k * B % 9973)) (Pl.zeros Z) (keyL_fit _) (by rw [hvl]; exact hZ) (Nat.le_refl 4096) (show p ≤ 4096 by omega) rfl ht t w rd G h1 h2 h3.ok (by omega) (by rw [hx]; have := hsm2.1; omega) h.ev h.ge hA h.v
  rw [hx, hvl, keyL_len] at hput
  refine hput.mono ?_
  rintro e w' ⟨kk, rfl, hq0, hq⟩
  have hT := h1.tree
  have hlow : Below w0.heap.size w w' := hq0.low.toBelow h.low.size (fun y hy hf => by rw [hlo] at hf; omega)
  rcases hq with ⟨rfl, G', rd', r', fr', q1, q2, q3, q4, q5, q6⟩ | ⟨_, G', rd', fr', _, _, _, q4, q5⟩ | ⟨_, q1, _⟩ | ⟨_, q1, _⟩
  · refine ⟨rfl, r', rd', ⟨G', x.1, x.2, fr', q1, q3, hgr, q4, q5, h6.refs q2 hq0.refs r', q2 _ _ h7⟩, ?_, h.ev.tft hT hq0, h.ge.tft hT hq0, ?_, hq0.blk h.f (by decide), ?_, ?_, h.low.trans hlow⟩
    · have h8 := h.rd
      have h9 := q6 h8.1 (by omega)
      omega
    · obtain ⟨k', he⟩ := h.e
      exact ⟨k', hq0.blk he (by decide)⟩
    · obtain ⟨F, g1, g2⟩ := hq0.only
      exact byt_kinds h.v h.vt g1 g2 (by decide)
    · obtain ⟨F, g1, g2⟩ := hq0.only
      exact fun q hq => (h.vt q hq).only g1 g2 (by decide)
  · exfalso
    have h8 : 4096 < fr' + p + 2 := q5
    have := hsm2.1
    omega
  · exfalso
    have h8 : d.life = 0 := q1
    omega
  · exact q1.elim
end Go.Proofs.YtljmklohgpaopaaGreatDoor

namespace Go.Proofs.YtljmklohgpaopaaGreatDoor
open Go.RowKit
set_option linter.unusedSectionVars false
variable [Inhabited LoT]

/-- What stands when the tree was saved. -/
structure LnSaved (g : Nat) (vD : Value) (Z B N be bf : Nat) (A : Option Addr) (w0 w : World) (d : Pl.Dk) (rd : Int) (h : Nat) (t : Pl.Tr h) (s : Pl.ST h) : Prop where
  disk : DiskAt w g vD d rd
  life : d.life < 0
  len : d.secs.length = 4096
  slots : SlotOk d 0 4096 2 (Pl.top h s) (Pl.dcount 4096 (Pl.secsOf h s))
  on : Pl.OnD (fun j => d.look (0 + j)) 4096 h s t
  grown : Pl.Grown (Pl.zeros Z) ((List.range N).map (keyI B)) ⟨h, t⟩
  hh : h ≤ 9
  rd : 0 ≤ rd ∧ rd ≤ 2000000
  ev : EvAt w
  ge : GE w
  e : ∃ k : Int, Blk w be 28 [.int .i64 k, .string ⟨#[]⟩, .bool true]
  f : Blk w bf 28 [.int .i64 0, .string ⟨#[]⟩, .bool true]
  low : Below w0.heap.size w0 w
theorem LnAt.save {gT g : Nat} {vD : Value} {d : Pl.Dk} {p r0 : Nat} {s0 : Pl.ST 0} {Z B N be bf : Nat} {A : Option Addr} {w0 w : World} {r : Nat} {rd : Int} (h : LnAt gT g vD d p r0 s0 Z B N be bf A w0 w r rd) (hlo : LO = w0.heap.size) (hl : d.life < 0) (hlen : d.secs.length = 4096) (hp1 : p ≤ 1) (hN : 1 ≤ N) (hN2 : N ≤ 1000) (hs : SlotOk d 0 4096 1 (Pl.top 0 s0) p) :
    Calls Tryz.prog 23 #[.pointer (some ⟨gT, 0, none⟩)] w fun e w' => e = .returned (errA 0 ⟨#[]⟩) ∧ ∃ d2 rd2 ht t s, LnSaved g vD Z B N be bf A w0 w' d2 rd2 ht t s := by
  obtain ⟨G, ht, t, fr, h1, h2, h3, h4, h5, h6, h7⟩ := h.tw
  have hkl : ((List.range N).map (keyI B)).length = N := by simp
  have hsm := Pl.RootOk.small h3.ok (n := N) (by have := h3.len; rw [hkl] at this; exact this) hN
  have hht : ht ≤ 9 := Pl.low_height hsm.2 hN2
  have hin : SvIn ((opEnv gT g 0 4096 vD d 1 p r0 0 s0).to r) w rd G ht t fr (Pl.secsOf 0 s0) :=
    ⟨h1, h2, h3.ok, by omega, h4, h5, Nat.le_refl 4096, h6, h.ev, fun j hj => hj, by show (1 : Nat) ≤ 20000; decide, by show (1 : Nat) + 1 < _; decide, by have : Pl.pgs ht t ≤ 2 * N := hsm.1; omega⟩
  refine (psave_any _ ht t fr (Pl.secsOf 0 s0) w rd G hin rfl h.ge).mono ?_
  rintro e w' ⟨k, rfl, q0, q1, q2⟩
  rcases q2 with ⟨_, e1, _⟩ | ⟨_, _, l, d', rd', _, q4, _⟩ | ⟨l, d1, d2, ok, s, rd', q3, q4, q5, q6, rfl, q8, q9, q10⟩
  · exfalso
    have e2 : r0 = r := Option.some.inj e1
    subst e2
    rw [h2] at h7
    injection h7 with h7
    have h8 := h3.has (keyI B 0) (List.mem_map.2 ⟨0, List.mem_range.2 (by omega), rfl⟩)
    rw [h7] at h8
    cases h8
  · exfalso
    have hl' : ((opEnv gT g 0 4096 vD d 1 p r0 0 s0).to r).d.life < 0 := hl
    rcases q4 with ⟨q4, _⟩ | q4
    · omega
    · rw [Pl.run_of hl'] at q4
      injection q4 with _ q4
      cases q4
  · have q4' : d.run (l ++ [.sy]) = (d1, true) := q4
    have hd1 : d1.life < 0 := by have := run_life hl (l ++ [.sy]); rw [q4'] at this; exact this ▸ hl
    have hok : ok = true := by
      rw [Pl.run_of hd1] at q6
      injection q6 with _ q6
      exact q6.symm
    subst hok
    obtain ⟨S', G', v, k1, k2, k3, k4, k5⟩ := q10 rfl
    have hd2 : d2.life < 0 := by
      have := run_life hd1 [.wr (0 + (1 + 1) % 2) (slotT (1 + 1) (Pl.top ht s) (Pl.dcount 4096 (Pl.secsOf ht s))), .sy]
      rw [show d1.run [.wr (0 + (1 + 1) % 2) (slotT (1 + 1) (Pl.top ht s) (Pl.dcount 4096 (Pl.secsOf ht s))), .sy] = (d2, true) from q6] at this
      exact this ▸ hd1
    obtain ⟨g1, g2, g3⟩ := slots_saved (d := d) (first := 0) (n := 4096) (seq := 1) q3 q4' q5 q6 (fun x hx _ => by
      have h8 := hs.now
      rw [hx] at h8
      injection h8 with h8
      rw [h8, slot_seq _ _ hs.hi]
      omega) (by decide) (by omega) (by omega)
    refine ⟨rfl, d2, rd', ht, t, s, ⟨q8, hd2, by rw [g3, hlen], g1, g2, h3, hht, ?_, q1.1 h.ev, q1.2.1 h.ge, ?_, q0.blk h.f (by decide), h.low.trans (q1.2.2.toBelow h.low.size (fun y hy hf => by rw [hlo] at hf; omega))⟩⟩
    · have h8 := h.rd
      have h9 := k3 h8.1 (by omega)
      omega
    · obtain ⟨k', he⟩ := h.e
      exact ⟨k', q0.blk he (by decide)⟩
theorem LnSaved.err {g : Nat} {vD : Value} {Z B N be bf : Nat} {A : Option Addr} {w0 w w' : World} {d : Pl.Dk} {rd : Int} {h : Nat} {t : Pl.Tr h} {s : Pl.ST h} (hs : LnSaved g vD Z B N be bf A w0 w d rd h t s) (hlo : LO = w0.heap.size) (hbe : w0.heap.size ≤ be) (hne : bf ≠ be) (ho : Only (· = be) w w') (k' : Int) (he' : Blk w' be 28 [.int .i64 k', .string ⟨#[]⟩, .bool true]) : LnSaved g vD Z B N be bf A w0 w' d rd h t s := by
  obtain ⟨k2, he⟩ := hs.e
  have hk := one_kinds he
  have hg := Gk.of1 he rfl (by rw [hlo]; exact hbe) ho
  exact ⟨hs.disk.only_ ho hk (by decide) (by decide), hs.life, hs.len, hs.slots, hs.on, hs.grown, hs.hh, hs.rd, hg.1 hs.ev, hg.2.1 hs.ge, ⟨k', he'⟩, ho.blk hs.f hne, hs.low.trans (ho.toBelow hs.low.size (fun y hy e => by omega))⟩
theorem LnGet {gT g r : Nat} {vD : Value} {d : Pl.Dk} {rd : Int} {seq Z B N K : Nat} {h : Nat} {t : Pl.Tr h} {s : Pl.ST h} {w : World} {G : Gh} {p : Nat} (htw : TW (opEnv gT g 0 4096 vD d seq p r h s) w rd G) (hG : G r = some ⟨h, t⟩) (hg : Pl.Grown (Pl.zeros Z) ((List.range N).map (keyI B)) ⟨h, t⟩) (hl : d.life < 0) (hh : h ≤ 9) (hK : K < N) (hev : EvAt w) (hge : GE w) (Ak : Option Addr) (ck : Nat) (hA : BytesAt w Ak (keyI B K)) (hrd : 0 ≤ rd ∧ rd ≤ 3000000) :
    Calls Tryz.prog 26 #[.pointer (some ⟨gT, 0, none⟩), .slice Ak 23 ck] w fun e w' => ∃ A cap rd', e = .returned (.tuple #[.slice A Z cap, errA 0 ⟨#[]⟩]) ∧ DiskAt w' g vD d rd' ∧ 0 ≤ rd' ∧ rd' ≤ rd + 10 ∧ Only (fun k => LO ≤ k) w w' := by
  have hvl : (Pl.zeros Z).length = Z := by simp [Pl.zeros]
  have hv := pvalue_any (opEnv gT g 0 4096 vD d seq p r h s) Ak ck (keyL (K * B % 9973)) (keyL_fit _) (Nat.le_refl 4096) rfl h t w rd G htw hG hg.ok (by omega) hev hge hA
  rw [keyL_len] at hv
  have hget : Pl.getL (keyL (K * B % 9973)) (Pl.leafOf h t (keyL (K * B % 9973))) = some (Pl.zeros Z) := by
    rw [show Pl.leafOf h t (keyL (K * B % 9973)) = Pl.leafOf (⟨h, t⟩ : Pl.Any).1 (⟨h, t⟩ : Pl.Any).2 (keyL (K * B % 9973)) from rfl, Pl.leaf_get hg.ok]
    exact Pl.mem_getL hg.ok.srt (hg.has (keyI B K) (List.mem_map.2 ⟨K, List.mem_range.2 hK, rfl⟩))
  refine hv.mono ?_
  rintro e w' ⟨k, go, v, rfl, hgo, q0, q1⟩
  rcases q1 with ⟨rfl, G', rd', A, cap, l, q2, q3, q4, q5, q6, q7, q8⟩ | ⟨_, q2, _⟩ | ⟨_, q2, _⟩
  · rw [hget] at q2
    injection q2 with q2
    subst q2
    have hc : w'.cell? ⟨go, 0, none⟩ = some (.slice A (Pl.zeros Z).length cap) := q6.cell 0
    rw [hgo] at hc
    injection hc with hc
    subst hc
    rw [hvl]
    have h9 := q5 hrd.1 (by omega)
    exact ⟨A, cap, rd', rfl, q3.disk, h9.1, by omega, q0.low⟩
  · exfalso
    have h8 : d.life = 0 := q2
    omega
  · rw [hget] at q2
    cases q2
end Go.Proofs.YtljmklohgpaopaaGreatDoor
