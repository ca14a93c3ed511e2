/- Plain: a tree on a disk that dies and crashes: what is read behind it. The disk's Crash and Die; the harness's raws. -/
import Derived.Test.YtljmklohgpaopaaGreatDoorMgPlanted27
import Derived.Test.YtljmklohgpaopaaGreatDoorMgPlanted26
import Derived.Test.YtljmklohgpaopaaGreatDoorMgPlanted14
import Derived.Test.YtljmklohgpaopaaGreatDoorMgPlanted21
set_option linter.unusedVariables false
set_option linter.unusedSimpArgs false

namespace Go.Proofs.YtljmklohgpaopaaGreatDoor
set_option linter.unusedSectionVars false
variable [Inhabited LoT]
namespace Pl
/-- A sector as changes leave it. -/
structure Sec.Fin (s : Sec) : Prop where
  fresh : s.fresh = true → s.broken = false
  still : s.fresh = false → s.broken = s.was ∧ (s.was = false → s.safe = s.now)
def Fins (l : List Sec) : Prop := ∀ s ∈ l, s.Fin
theorem fin_may_put {s : Sec} (h : s.Fin) (t : List UInt8) {o : Option (List UInt8)} (ho : (s.put t).may o) : o = some (padded t) ∨ o = none ∨ s.may o := by
  unfold Sec.may at ho
  rw [if_pos (show (s.put t).fresh = true from rfl)] at ho
  rcases ho with ho | ho | ⟨hw, ho⟩
  · exact .inl ho
  · exact .inr (.inl ho)
  · right; right
    unfold Sec.may
    by_cases hf : s.fresh = true
    · rw [if_pos hf]; exact .inr (.inr ⟨hw, ho⟩)
    · rw [if_neg hf]
      simp at hf
      obtain ⟨hb, hs⟩ := h.still hf
      have hw' : s.was = false := hw
      unfold Sec.look
      rw [hb, hw']
      simp
      rw [ho, ← hs hw']
      rfl
theorem fin_may_flush {s : Sec} (h : s.Fin) {o : Option (List UInt8)} (ho : s.flush.may o) : o = s.look ∧ s.may o := by
  unfold Sec.flush at ho
  by_cases hf : s.fresh = true
  · rw [if_pos hf] at ho
    unfold Sec.may at ho
    rw [if_neg Bool.false_ne_true] at ho
    refine ⟨ho, ?_⟩
    unfold Sec.may
    rw [if_pos hf]
    left
    rw [ho]
    simp [Sec.look, h.fresh hf]
  · rw [if_neg hf] at ho
    refine ⟨?_, ho⟩
    unfold Sec.may at ho
    rw [if_neg hf] at ho
    exact ho
theorem fin_put (s : Sec) (t : List UInt8) : (s.put t).Fin := ⟨fun _ => rfl, fun hf => by cases hf⟩
theorem fin_flush {s : Sec} (h : s.Fin) : s.flush.Fin := by
  unfold Sec.flush
  by_cases hf : s.fresh = true
  · rw [if_pos hf]
    exact ⟨(fun e => by cases e), fun _ => ⟨h.fresh hf, fun _ => rfl⟩⟩
  · rw [if_neg hf]; exact h
theorem fin_lose {s : Sec} (h : s.Fin) (hf : s.fresh = true) (c : Nat) : (s.lose c).Fin ∧ (s.lose c).fresh = false ∧ s.may (s.lose c).look := by
  unfold Sec.lose
  split
  · refine ⟨⟨(fun e => by cases e), fun _ => ⟨rfl, fun _ => rfl⟩⟩, rfl, ?_⟩
    unfold Sec.may Sec.look
    rw [if_pos hf]
    cases hw : s.was
    · exact .inr (.inr ⟨rfl, rfl⟩)
    · exact .inr (.inl rfl)
  · split
    · refine ⟨⟨(fun e => by cases e), fun _ => ⟨h.fresh hf, fun _ => rfl⟩⟩, rfl, ?_⟩
      unfold Sec.may Sec.look
      rw [if_pos hf]
      left
      simp [h.fresh hf]
    · refine ⟨⟨(fun e => by cases e), fun _ => ⟨rfl, fun e => by cases e⟩⟩, rfl, ?_⟩
      unfold Sec.may Sec.look
      rw [if_pos hf]
      exact .inr (.inl rfl)
theorem fins_on {l : List Sec} (h : Fins l) (c : Ch) : Fins (c.on l) := by
  intro x hx
  cases c with
  | wr i t =>
    obtain ⟨k, hk⟩ := List.getElem?_of_mem hx
    simp only [Ch.on, List.getElem?_modify] at hk
    cases hs : l[k]? with
    | none => rw [hs] at hk; cases hk
    | some y =>
      rw [hs] at hk
      by_cases hik : i = k
      · simp [hik] at hk
        subst hk
        exact fin_put y t
      · simp [hik] at hk
        subst hk
        exact h y (List.mem_of_getElem? hs)
  | sy =>
    obtain ⟨y, hy, rfl⟩ := List.mem_map.1 hx
    exact fin_flush (h y hy)
theorem fin_may_wr {l : List Sec} (h : Fins l) (i : Nat) (t : List UInt8) {j : Nat} {o : Option (List UInt8)} (ho : May (Ch.on (.wr i t) l) j o) :
    (i = j ∧ (o = some (padded t) ∨ o = none)) ∨ May l j o := by
  obtain ⟨s, hs, hm⟩ := ho
  simp only [Ch.on, List.getElem?_modify] at hs
  cases hy : l[j]? with
  | none => rw [hy] at hs; cases hs
  | some y =>
    rw [hy] at hs
    by_cases hij : i = j
    · simp [hij] at hs
      subst hs
      rcases fin_may_put (h y (List.mem_of_getElem? hy)) t hm with hm | hm | hm
      · exact .inl ⟨hij, .inl hm⟩
      · exact .inl ⟨hij, .inr hm⟩
      · exact .inr ⟨y, hy, hm⟩
    · simp [hij] at hs
      subst hs
      exact .inr ⟨y, hy, hm⟩
theorem fin_may_sy {l : List Sec} (h : Fins l) (life : Int) {j : Nat} {o : Option (List UInt8)} (ho : May (Ch.on .sy l) j o) : o = (Dk.mk l life).look j ∧ May l j o := by
  obtain ⟨s, hs, hm⟩ := ho
  simp only [Ch.on, List.getElem?_map] at hs
  cases hy : l[j]? with
  | none => rw [hy] at hs; cases hs
  | some y =>
    rw [hy] at hs
    simp at hs
    subst hs
    obtain ⟨h1, h2⟩ := fin_may_flush (h y (List.mem_of_getElem? hy)) hm
    refine ⟨?_, ⟨y, hy, h2⟩⟩
    unfold Dk.look
    rw [hy]
    exact h1
theorem fin_may_look {l : List Sec} (h : Fins l) (life : Int) {j : Nat} (hj : j < l.length) : May l j ((Dk.mk l life).look j) := by
  refine ⟨l[j], List.getElem?_eq_getElem hj, ?_⟩
  unfold Dk.look
  simp only [List.getElem?_eq_getElem hj]
  unfold Sec.may
  by_cases hf : (l[j]).fresh = true
  · rw [if_pos hf]
    left
    simp [(h _ (List.getElem_mem hj)).fresh hf]
  · rw [if_neg hf]; rfl
theorem fin_loses_at (l : List Sec) (h : Fins l) : ∀ (raw : List Int) (j : Nat) (s' : Sec), (loses l raw)[j]? = some s' → ∃ s, l[j]? = some s ∧ s'.Fin ∧ s'.fresh = false ∧ s.may s'.look := by
  induction l with
  | nil => intro raw j s' hs; simp [loses] at hs
  | cons x l ih =>
    intro raw j s' hs
    have hx := h x (by simp)
    have hl : Fins l := fun s hs => h s (by simp [hs])
    unfold loses at hs
    by_cases hf : x.fresh = true
    · rw [if_pos hf] at hs
      match j with
      | 0 =>
        simp at hs
        subst hs
        obtain ⟨h1, h2, h3⟩ := fin_lose hx hf (three (raw.headD 0))
        exact ⟨x, rfl, by simpa using h1, by simpa using h2, by simpa using h3⟩
      | j + 1 => exact ih hl raw.tail j s' (by simpa using hs)
    · rw [if_neg hf] at hs
      match j with
      | 0 =>
        simp at hs
        subst hs
        simp at hf
        exact ⟨x, rfl, hx, hf, by unfold Sec.may; rw [hf]; simp⟩
      | j + 1 => exact ih hl raw j s' (by simpa using hs)

/-- What a crash may leave of a sector is what is read now. -/
def Firm (d : Dk) (j : Nat) : Prop := ∀ o, May d.secs j o → o = d.look j
theorem fins_crash {d : Dk} (h : Fins d.secs) (raw : List Int) : Fins (d.crash raw).secs ∧ (∀ j, Firm (d.crash raw) j) ∧ (d.crash raw).secs.length = d.secs.length ∧ (d.crash raw).life = -1 ∧ ∀ j, j < d.secs.length → May d.secs j ((d.crash raw).look j) := by
  have hf : ∀ s ∈ loses d.secs raw, s.fresh = false := fun s hs => by
    obtain ⟨k, hk⟩ := List.getElem?_of_mem hs
    obtain ⟨_, _, _, h1, _⟩ := fin_loses_at d.secs h raw k s hk
    exact h1
  have hF : Fins (loses d.secs raw) := fun s hs => by
    obtain ⟨k, hk⟩ := List.getElem?_of_mem hs
    obtain ⟨_, _, h1, _, _⟩ := fin_loses_at d.secs h raw k s hk
    exact h1
  refine ⟨hF, fun j o ho => may_still hf _ ho, loses_length _ _, rfl, fun j hj => ?_⟩
  obtain ⟨s', hs', hm⟩ := fin_may_look hF (-1) (show j < (loses d.secs raw).length by rw [loses_length]; exact hj)
  obtain ⟨s, hs, _, hfr, hmay⟩ := fin_loses_at d.secs h raw j s' hs'
  unfold Sec.may at hm
  rw [if_neg (by rw [hfr]; decide)] at hm
  show May d.secs j ((Dk.mk (loses d.secs raw) (-1)).look j)
  rw [hm]
  exact ⟨s, hs, hmay⟩
theorem Firm.crash {d : Dk} {j : Nat} (h : Firm d j) (hf : Fins d.secs) (hj : j < d.secs.length) (raw : List Int) : (d.crash raw).look j = d.look j := h _ ((fins_crash hf raw).2.2.2.2 j hj)
theorem fins_change {d : Dk} (h : Fins d.secs) (c : Ch) : Fins (d.change c).secs := by
  unfold Dk.change
  split
  · exact fins_on h c
  · exact h
theorem fins_run : ∀ {l : List Ch} {d : Dk}, Fins d.secs → Fins (d.run l).1.secs
  | [], d, h => h
  | c :: l, d, h => by
    rw [Dk.run_cons]
    split
    · exact fins_run (fins_change h c)
    · exact fins_change h c
theorem run_dead : ∀ {l : List Ch} {d d' : Dk}, d.run l = (d', false) → d'.life = 0
  | [], d, d', h => by rw [Dk.run_nil] at h; injection h with _ h; cases h
  | c :: l, d, d', h => by
    rw [Dk.run_cons] at h
    by_cases ha : d.alive = true
    · rw [if_pos ha] at h
      exact run_dead h
    · rw [if_neg ha] at h
      injection h with h _
      rw [← h]
      exact (life_dead ha c).1
/-- What is free is written: nothing else may be lost. -/
theorem free_may {first : Nat} {js : List Nat} : ∀ {l : List Ch} {d d' : Dk} {ok : Bool}, FreeW first js l → d.run l = (d', ok) → Fins d.secs → ∀ j, (j < 2 ∨ j ∈ js) → ∀ o, May d'.secs (first + j) o → May d.secs (first + j) o
  | [], d, d', ok, _, hr, _, j, _, o, ho => by rw [Dk.run_nil] at hr; injection hr with h1 _; subst h1; exact ho
  | c :: l, d, d', ok, h, hr, hf, j, hj, o, ho => by
    have hc : ∀ o, May (d.change c).secs (first + j) o → May d.secs (first + j) o := fun o ho => by
      unfold Dk.change at ho
      split at ho
      · rcases h c (by simp) with rfl | ⟨i, x, rfl, h1, h2⟩
        · exact (fin_may_sy hf d.life ho).2
        · rcases fin_may_wr hf _ _ ho with ⟨e, _⟩ | ho
          · exfalso
            have : i = j := by omega
            subst this
            rcases hj with hj | hj
            · omega
            · exact h2 hj
          · exact ho
      · exact ho
    rw [Dk.run_cons] at hr
    by_cases hal : d.alive = true
    · rw [if_pos hal] at hr
      exact hc o (free_may (fun c hc => h c (List.mem_cons_of_mem _ hc)) hr (fins_change hf c) j hj o ho)
    · rw [if_neg hal] at hr
      injection hr with h1 _
      subst h1
      exact hc o ho
theorem sync_firm {d d1 : Dk} {l : List Ch} (h : d.run (l ++ [.sy]) = (d1, true)) (hf : Fins d.secs) (j : Nat) : Firm d1 j := by
  rw [Dk.run_append] at h
  split at h
  · have hf0 : Fins (d.run l).1.secs := fins_run hf
    obtain ⟨d0, hd0⟩ : ∃ x, (d.run l).1 = x := ⟨_, rfl⟩
    rw [hd0] at h hf0
    rw [Dk.run_cons, Dk.run_nil] at h
    by_cases ha : d0.alive = true
    · rw [if_pos ha] at h
      injection h with h _
      subst h
      intro o ho
      rw [look_sync]
      have h2 : (d0.change .sy).secs = Ch.on .sy d0.secs := change_secs ha _
      rw [h2] at ho
      exact (fin_may_sy hf0 d0.life ho).1
    · rw [if_neg ha] at h
      injection h with _ h
      cases h
  · injection h with _ h
    cases h

/-- A tree is saved on a disk. -/
structure SavedOn (d : Dk) (first n seq h : Nat) (s : ST h) (t : Tr h) : Prop where
  slot : SlotOk d first n seq (top h s) (Pl.dcount n (secsOf h s))
  on : OnD (fun j => d.look (first + j)) n h s t
theorem SavedOn.look {d d' : Dk} {first n seq h : Nat} {s : ST h} {t : Tr h} (hs : SavedOn d first n seq h s t) (hl : ∀ j, (j < 2 ∨ j ∈ secsOf h s) → d'.look (first + j) = d.look (first + j)) : SavedOn d' first n seq h s t := by
  obtain ⟨⟨a1, a2, a3, a4, a5, a6, a7, a8⟩, hO⟩ := hs
  exact ⟨⟨by rw [hl _ (.inl (by omega))]; exact a1, fun x hx => a2 x (by rw [hl _ (.inl (by omega))] at hx; exact hx), a3, a4, a5, a6, a7, a8⟩, hO.congr _ _ _ (fun j hj => hl j (.inr hj))⟩
theorem SavedOn.inr_ {d : Dk} {first n seq h : Nat} {s : ST h} {t : Tr h} (hs : SavedOn d first n seq h s t) (hn : 2 ≤ n) (hlen : first + n ≤ d.secs.length) {j : Nat} (hj : j < 2 ∨ j ∈ secsOf h s) : first + j < d.secs.length := by
  rcases hj with hj | hj
  · omega
  · have := (hs.on.all _ _ _ j hj).2.1
    omega
/-- A save that fails ahead of the slot. -/
theorem fail_one {d d' : Dk} {first n seq h : Nat} {s : ST h} {t : Tr h} {l : List Ch} (hs : SavedOn d first n seq h s t) (hf : Fins d.secs) (hm : ∀ j, (j < 2 ∨ j ∈ secsOf h s) → Firm d (first + j)) (hn : 2 ≤ n) (hlen : first + n ≤ d.secs.length) (hw : FreeW first (secsOf h s) l) (hr : d.life = 0 ∧ d' = d ∨ d.run l = (d', false)) :
    Fins d'.secs ∧ d'.life = 0 ∧ d'.secs.length = d.secs.length ∧ ∀ raw, SavedOn (d'.crash raw) first n seq h s t := by
  have h1 : Fins d'.secs ∧ d'.life = 0 ∧ d'.secs.length = d.secs.length ∧ ∀ j, (j < 2 ∨ j ∈ secsOf h s) → ∀ o, May d'.secs (first + j) o → May d.secs (first + j) o := by
    rcases hr with ⟨h0, rfl⟩ | hr
    · exact ⟨hf, h0, rfl, fun _ _ _ h => h⟩
    · refine ⟨?_, run_dead hr, ?_, free_may hw hr hf⟩
      · have := fins_run (l := l) hf; rw [hr] at this; exact this
      · have := run_len l d; rw [hr] at this; exact this
  obtain ⟨h1, h2, h3, h4⟩ := h1
  refine ⟨h1, h2, h3, fun raw => hs.look fun j hj => ?_⟩
  exact hm j hj _ (h4 j hj _ ((fins_crash h1 raw).2.2.2.2 _ (by rw [h3]; exact hs.inr_ hn hlen hj)))
/-- A save that fails at the slot. -/
theorem fail_two {d d1 d2 : Dk} {first n seq h h2 : Nat} {s : ST h} {t : Tr h} {s2 : ST h2} {t2 : Tr h2} {l : List Ch} (hs : SavedOn d first n seq h s t) (hf : Fins d.secs) (hn : 2 ≤ n) (hlen : first + n ≤ d.secs.length) (hw : FreeW first (secsOf h s) l) (h1 : d.run (l ++ [.sy]) = (d1, true)) (hO : OnD (fun j => d1.look (first + j)) n h2 s2 t2)
    (hr : d1.run [.wr (first + (seq + 1) % 2) (slotT (seq + 1) (top h2 s2) (Pl.dcount n (secsOf h2 s2))), .sy] = (d2, false)) (hq : seq + 1 < 18446744073709551616) :
    Fins d2.secs ∧ d2.life = 0 ∧ d2.secs.length = d.secs.length ∧ ∀ raw, SavedOn (d2.crash raw) first n seq h s t ∨ SavedOn (d2.crash raw) first n (seq + 1) h2 s2 t2 := by
  have hl1 : d1.secs.length = d.secs.length := by have := run_len (l ++ [.sy]) d; rw [h1] at this; exact this
  have hf1 : Fins d1.secs := by have := fins_run (l := l ++ [.sy]) hf; rw [h1] at this; exact this
  have hm1 := sync_firm h1 hf
  have hk : ∀ j, (j < 2 ∨ j ∈ secsOf h s) → d1.look (first + j) = d.look (first + j) := FreeW.look hw.sy h1
  have hs1 := hs.look hk
  have hf2 : Fins d2.secs := by have := fins_run (l := [.wr (first + (seq + 1) % 2) (slotT (seq + 1) (top h2 s2) (Pl.dcount n (secsOf h2 s2))), .sy]) hf1; rw [hr] at this; exact this
  have hl2 : d2.secs.length = d.secs.length := by rw [← hl1]; have := run_len [.wr (first + (seq + 1) % 2) (slotT (seq + 1) (top h2 s2) (Pl.dcount n (secsOf h2 s2))), .sy] d1; rw [hr] at this; exact this
  refine ⟨hf2, run_dead hr, hl2, fun raw => ?_⟩
  obtain ⟨tx, htx⟩ : ∃ x, slotT (seq + 1) (top h2 s2) (Pl.dcount n (secsOf h2 s2)) = x := ⟨_, rfl⟩
  rw [htx] at hr
  -- what may be read
  have hmay : ∀ j o, May d2.secs (first + j) o → (j = (seq + 1) % 2 ∧ (o = some (padded tx) ∨ o = none)) ∨ o = d1.look (first + j) := by
    intro j o ho
    rw [Dk.run_cons] at hr
    by_cases ha : d1.alive = true
    · rw [if_pos ha, Dk.run_cons] at hr
      have h3 : May (d1.change (.wr (first + (seq + 1) % 2) tx)).secs (first + j) o := by
        split at hr
        · rw [Dk.run_nil] at hr
          injection hr with _ hr
          cases hr
        · rename_i hb
          injection hr with hr _
          subst hr
          rw [(life_dead hb _).2] at ho
          exact ho
      rw [change_secs ha] at h3
      rcases fin_may_wr hf1 _ _ h3 with ⟨e, h4⟩ | h4
      · exact .inl ⟨by omega, h4⟩
      · exact .inr (hm1 _ _ h4)
    · rw [if_neg ha] at hr
      injection hr with hr _
      subst hr
      rw [(life_dead ha _).2] at ho
      exact .inr (hm1 _ _ ho)
  have hcl : ∀ j, first + j < d.secs.length → (j = (seq + 1) % 2 ∧ ((d2.crash raw).look (first + j) = some (padded tx) ∨ (d2.crash raw).look (first + j) = none)) ∨ (d2.crash raw).look (first + j) = d1.look (first + j) :=
    fun j hj => hmay j _ ((fins_crash hf2 raw).2.2.2.2 _ (by rw [hl2]; exact hj))
  have hoff : ∀ j, first + j < d.secs.length → j ≠ (seq + 1) % 2 → (d2.crash raw).look (first + j) = d1.look (first + j) := fun j hj hne => (hcl j hj).elim (fun h => absurd h.1 hne) id
  have hin2 : ∀ j ∈ secsOf h2 s2, first + j < d.secs.length ∧ j ≠ (seq + 1) % 2 := fun j hj => by
    have := hO.all _ _ _ j hj
    omega
  have hO2 : OnD (fun j => (d2.crash raw).look (first + j)) n h2 s2 t2 := hO.congr _ _ _ (fun j hj => hoff j (hin2 j hj).1 (hin2 j hj).2)
  have hb2 := hO.bounds
  rcases hcl ((seq + 1) % 2) (by omega) with ⟨_, h3 | h3⟩ | h3
  · right
    refine ⟨⟨by rw [h3, ← htx], fun x hx => ?_, by omega, hq, hb2.1, hb2.2, Pl.dcount_pos (top_mem h2 s2) hb2.2, Pl.dcount_le _ _⟩, hO2⟩
    have e : (seq + 1 + 1) % 2 = seq % 2 := by omega
    rw [e, hoff _ (by omega) (by omega), hs1.slot.now] at hx
    injection hx with hx
    intro _
    rw [← hx, slot_seq _ _ hs.slot.hi]
    omega
  · left
    obtain ⟨⟨a1, a2, a3, a4, a5, a6, a7, a8⟩, hO1⟩ := hs1
    refine ⟨⟨by rw [hoff _ (by omega) (by omega)]; exact a1, fun x hx => (by rw [h3] at hx; cases hx), a3, a4, a5, a6, a7, a8⟩, hO1.congr _ _ _ (fun j hj => hoff j ?_ ?_)⟩
    · have := hO1.all _ _ _ j hj; omega
    · have := hO1.all _ _ _ j hj; omega
  · left
    refine hs1.look fun j hj => ?_
    by_cases e : j = (seq + 1) % 2
    · rw [e]; exact h3
    · exact hoff j (hs.inr_ hn hlen hj) e
/-- A save that succeeds. -/
theorem saved_on {d d1 d2 : Dk} {first n seq h h2 : Nat} {s : ST h} {t : Tr h} {s2 : ST h2} {t2 : Tr h2} {l : List Ch} (hs : SavedOn d first n seq h s t) (hf : Fins d.secs) (hn : 2 ≤ n) (hlen : first + n ≤ d.secs.length) (hw : FreeW first (secsOf h s) l) (h1 : d.run (l ++ [.sy]) = (d1, true)) (hO : OnD (fun j => d1.look (first + j)) n h2 s2 t2)
    (hr : d1.run [.wr (first + (seq + 1) % 2) (slotT (seq + 1) (top h2 s2) (Pl.dcount n (secsOf h2 s2))), .sy] = (d2, true)) (hq : seq + 1 < 18446744073709551616) :
    Fins d2.secs ∧ d2.secs.length = d.secs.length ∧ (∀ j, Firm d2 j) ∧ SavedOn d2 first n (seq + 1) h2 s2 t2 := by
  have hf1 : Fins d1.secs := by have := fins_run (l := l ++ [.sy]) hf; rw [h1] at this; exact this
  have hf2 : Fins d2.secs := by have := fins_run (l := [.wr (first + (seq + 1) % 2) (slotT (seq + 1) (top h2 s2) (Pl.dcount n (secsOf h2 s2))), .sy]) hf1; rw [hr] at this; exact this
  obtain ⟨g1, g2, g3⟩ := slots_saved hw h1 hO hr (fun x hx _ => by
    have h8 := hs.slot.now
    rw [hx] at h8
    injection h8 with h8
    rw [h8, slot_seq _ _ hs.slot.hi]
    omega) hq hlen hn
  exact ⟨hf2, g3, fun j => sync_firm (l := [.wr (first + (seq + 1) % 2) (slotT (seq + 1) (top h2 s2) (Pl.dcount n (secsOf h2 s2)))]) hr hf1 j, g1, g2⟩
theorem low_height' {h n : Nat} (h1 : 2 ^ h ≤ n) (hn : n ≤ 10000) : h ≤ 13 := by
  rcases Nat.lt_or_ge h 14 with h2 | h2
  · omega
  · have := Nat.pow_le_pow_right (show 0 < 2 by omega) h2
    omega
theorem leaf_has {k : Key} {x : Any} (hx : RootOk x) : hasL k (leafOf x.1 x.2 k) = hasL k x.prs := by rw [hasL_get, leaf_get hx, ← hasL_get]
theorem delL_len {k : Key} (ps : List Pr) : (delL k ps).length ≤ ps.length := by
  unfold delL
  rw [List.length_append, List.length_take, List.length_drop]
  omega
end Pl
end Go.Proofs.YtljmklohgpaopaaGreatDoor

namespace Go.Proofs.YtljmklohgpaopaaGreatDoor
open Go.RowKit

/-- Raw numbers as cells. -/
def iv (l : List Int) : List Value := l.map (fun x => .int .i64 x)
theorem iv_get (l : List Int) (k : Nat) (c : Int) (h : l[k]? = some c) : (iv l)[k]? = some (.int .i64 c) := by simp [iv, h]
theorem getD_some {l : List Int} {k : Nat} (h : k < l.length) : l[k]? = some (l.getD k 0) := by
  rw [List.getD_eq_getElem?_getD, List.getElem?_eq_getElem h]
  rfl
def Raw (l : List Int) : Prop := ∀ c ∈ l, 0 ≤ c ∧ c ≤ 255

set_option maxHeartbeats 1000000 in
theorem dpick_any (A : Option Addr) (cap k : Nat) (l : List Int) (w : World) (hs : Src w A (iv l)) (hr : Raw l) (hk : k ≤ 4096) (hl : l.length ≤ 4096) :
    Calls Tryz.prog 105 #[.slice A l.length cap, .int .i64 (k : Nat)] w fun e w' => e = .returned (.int .i64 (Pl.three (l.getD k 0) : Nat)) ∧ w = w' := by
  by_cases hkl : k < l.length
  · have hg := getD_some hkl
    obtain ⟨c, hc⟩ : ∃ c, l.getD k 0 = c := ⟨_, rfl⟩
    rw [hc] at hg
    have hcr := hr c (List.mem_of_getElem? hg)
    obtain ⟨b, off, rfl, hcell⟩ := hs.at_ k _ (iv_get l k c hg)
    have hth : ((Pl.three c : Nat) : Int) = c % 3 := by
      unfold Pl.three
      rw [if_neg (by omega)]
      omega
    rw [hc, hth]
    have hn : ¬ c < 0 := by omega
    have hm : c.tmod 3 = c % 3 := Int.tmod_eq_emod_of_nonneg (by omega)
    have hd : decide (c < 0) = false := by simpa using hn
    have hge : ¬ ((l.length : Int) ≤ (k : Int)) := by omega
    have hge2 : decide ((l.length : Int) ≤ (k : Int)) = false := by simpa using hge
    have hki : (k : Int) < (l.length : Int) := by omega
    clear hg hc hs hr hth
    go_enter Tryz.func105, Tryz.ntmps105
    go_wp2_with fail
    go_ret
    exact ⟨rfl, rfl⟩
  · have : l.getD k 0 = 0 := by rw [List.getD_eq_getElem?_getD, List.getElem?_eq_none (by omega)]; rfl
    rw [this]
    have hge : ((l.length : Int) ≤ (k : Int)) := by omega
    clear hs hr this
    go_enter Tryz.func105, Tryz.ntmps105
    go_wp2_with fail
    go_ret
    exact ⟨rfl, rfl⟩

set_option maxHeartbeats 1000000 in
theorem die_any (g : Nat) (v : Value) (d : Pl.Dk) (rd : Int) (k : Int) (w : World) (h : DiskAt w g v d rd) (hk : 0 ≤ k ∧ k ≤ 9223372036854775807) :
    Calls Tryz.prog 62 #[.pointer (some ⟨g, 0, none⟩), .int .i64 k] w fun e w' => e = .returned (.tuple #[]) ∧ DiskAt w' g v (d.die k) rd ∧ Only (dF g v) w w' := by
  obtain ⟨wr, sy, hb⟩ := h.blk
  obtain ⟨c0, c1, c2, c3, c4, f0, f1, f2, f3, f4⟩ := facts5 hb
  have HD := Lib.hid h
  have HB := Lib.hid hb
  have hmx : max k 0 = k := by omega
  clear h hb
  by_cases h0 : d.life = 0
  · have hd : d.die k = d := by unfold Pl.Dk.die; rw [if_pos h0]
    rw [h0] at c1
    rw [hd]
    go_enter Tryz.func62, Tryz.ntmps62
    go_wp2_with fail
    go_end0
    exact ⟨rfl, HD.out, Only.refl _ _⟩
  · have hd : d.die k = ⟨d.secs, k⟩ := by unfold Pl.Dk.die; rw [if_neg h0, if_neg (by omega)]
    rw [hd]
    have hne : (d.life == 0) = false := by simpa using h0
    go_enter Tryz.func62, Tryz.ntmps62
    go_wp2_with fail
    go_end0
    have ho : Only (· = g) w (w.setCell ⟨g, 1, none⟩ (.int .i64 k)) := (Only.refl (· = g) w).setCell (p := ⟨g, 1, none⟩) (.inl rfl) _
    exact ⟨rfl, HD.out.ofHead ho k rd wr sy ⟨by omega, hk.2⟩ (HB.out.set_ 1 _), ho.mono (fun x _ e => .inl e)⟩

/-- How many of some sectors are not safe. -/
def fcount (l : List Pl.Sec) : Nat := (l.filter (·.fresh)).length
theorem fcount_le (l : List Pl.Sec) : fcount l ≤ l.length := List.length_filter_le _ _
theorem loses_append : ∀ (a b : List Pl.Sec) (raw : List Int), Pl.loses (a ++ b) raw = Pl.loses a raw ++ Pl.loses b (raw.drop (fcount a))
  | [], b, raw => rfl
  | s :: a, b, raw => by
    rw [List.cons_append, Pl.loses, Pl.loses]
    by_cases h : s.fresh = true
    · rw [if_pos h, if_pos h, loses_append a b raw.tail, List.cons_append]
      congr 3
      unfold fcount
      rw [List.filter_cons_of_pos h, List.length_cons, List.drop_tail]
    · rw [if_neg h, if_neg h, loses_append a b raw, List.cons_append]
      congr 3
      unfold fcount
      rw [List.filter_cons_of_neg h]
theorem headD_drop (l : List Int) (k : Nat) : (l.drop k).headD 0 = l.getD k 0 := by
  rw [List.getD_eq_getElem?_getD, List.headD_eq_head?_getD, List.head?_drop]
theorem loses_step (l : List Pl.Sec) (raw : List Int) (i : Nat) (s : Pl.Sec) (hs : l[i]? = some s) :
    (Pl.loses (l.take i) raw ++ l.drop i)[i]? = some s ∧
    (s.fresh = true → (Pl.loses (l.take i) raw ++ l.drop i).set i (s.lose (Pl.three (raw.getD (fcount (l.take i)) 0))) = Pl.loses (l.take (i + 1)) raw ++ l.drop (i + 1) ∧ fcount (l.take (i + 1)) = fcount (l.take i) + 1) ∧
    (s.fresh = false → Pl.loses (l.take i) raw ++ l.drop i = Pl.loses (l.take (i + 1)) raw ++ l.drop (i + 1) ∧ fcount (l.take (i + 1)) = fcount (l.take i)) := by
  have hi : i < l.length := (List.getElem?_eq_some_iff.1 hs).1
  have he : l[i] = s := (List.getElem?_eq_some_iff.1 hs).2
  have hl : (Pl.loses (l.take i) raw).length = i := by rw [Pl.loses_length, List.length_take]; omega
  have ht : l.take (i + 1) = l.take i ++ [s] := by rw [List.take_succ_eq_append_getElem hi, he]
  have hd : l.drop i = s :: l.drop (i + 1) := by rw [List.drop_eq_getElem_cons hi, he]
  have hf : fcount (l.take (i + 1)) = fcount (l.take i) + (if s.fresh = true then 1 else 0) := by
    rw [ht]
    unfold fcount
    rw [List.filter_append, List.length_append]
    by_cases h : s.fresh = true
    · rw [List.filter_cons_of_pos h, if_pos h]; rfl
    · rw [List.filter_cons_of_neg h, if_neg h]; rfl
  refine ⟨?_, fun h => ⟨?_, by rw [hf, if_pos h]⟩, fun h => ⟨?_, by rw [hf, h]; rfl⟩⟩
  · rw [List.getElem?_append_right (by omega), hl, Nat.sub_self, hd]; rfl
  · rw [List.set_append_right _ _ (by omega), hl, Nat.sub_self, hd, List.set_cons_zero, ht, loses_append, List.append_assoc, Pl.loses, if_pos h, headD_drop]
    rfl
  · rw [hd, ht, loses_append, List.append_assoc, Pl.loses, if_neg (by rw [h]; simp)]
    rfl
theorem lose_sized (s : Pl.Sec) (c : Nat) (h : s.now.length = 256 ∧ s.safe.length = 256) : (s.lose c).now.length = 256 ∧ (s.lose c).safe.length = 256 := by
  unfold Pl.Sec.lose
  split
  · exact ⟨h.2, h.2⟩
  · split
    · exact ⟨h.1, h.1⟩
    · exact h

theorem three_lt (c : Int) : Pl.three c < 3 := by
  unfold Pl.three
  omega
theorem Src.only {F : Nat → Prop} {w w' : World} {A : Option Addr} {cs : List Value} (h : Src w A cs) (ho : Only F w w') (hA : ∀ p, A = some p → ¬ F p.block ∧ p.block < w.heap.size) : Src w' A cs := by
  rcases h with h | ⟨b, off, rfl, h⟩
  · exact .inl h
  · refine .inr ⟨b, off, rfl, fun j u hu => ?_⟩
    obtain ⟨h1, h2⟩ := hA _ rfl
    have hb := ho.block b h2 h1
    have := h j u hu
    unfold World.cell? at this ⊢
    dsimp only at this ⊢
    rw [hb]
    exact this

set_option maxHeartbeats 2000000 in
set_option maxRecDepth 100000 in
theorem crash_any (g : Nat) (v : Value) (d : Pl.Dk) (rd : Int) (A : Option Addr) (cap : Nat) (raw : List Int) (w : World) (h : DiskAt w g v d rd) (hr : Raw raw) (hl : raw.length ≤ 4096) (hsrc : Src w A (iv raw)) (hA : ∀ p, A = some p → ¬ dF g v p.block ∧ p.block < w.heap.size) :
    Calls Tryz.prog 64 #[.pointer (some ⟨g, 0, none⟩), .slice A raw.length cap] w fun e w' => e = .returned (.tuple #[]) ∧ DiskAt w' g v (d.crash raw) rd ∧ Only (dF g v) w w' := by
  have hmost := h.most
  have HH := Lib.hid h
  obtain ⟨n, hn⟩ : ∃ n, d.secs.length = n := ⟨_, rfl⟩
  rw [hn] at hmost
  have HN := Lib.hid hn
  obtain ⟨B, capB, rfl, _, _, _⟩ := own_src h.own
  have HSR := Lib.hid hsrc
  have HR := Lib.hid hr
  have HA := Lib.hid hA
  clear hn h hsrc hr hA
  go_enter Tryz.func64, Tryz.ntmps64
  go_wp2_with fail
  go_loopw [4, 5] (fun c i W => ∃ k : Nat, k ≤ n ∧ i = .int .i64 (k : Int) ∧ c = .int .i64 (fcount (d.secs.take k) : Nat) ∧ Hid (DiskAt W g (.slice B d.secs.length capB) ⟨Pl.loses (d.secs.take k) raw ++ d.secs.drop k, d.life⟩ rd) ∧ Hid (Only (dF g (.slice B d.secs.length capB)) w W)) (fun _ i _ => n - (intOf i).toNat)
  case atStart => exact ⟨0, Nat.zero_le _, rfl, rfl, HH.out, Only.refl _ _⟩
  case round =>
    obtain ⟨k, hk, rfl, rfl, HD, HO⟩ := hrel
    have hlk : (Pl.loses (d.secs.take k) raw ++ d.secs.drop k).length = n := by rw [List.length_append, Pl.loses_length, List.length_take, List.length_drop, HN.out]; omega
    have HLK := Lib.hid hlk
    clear hlk
    obtain ⟨wr', sy', hb'⟩ := HD.out.blk
    rw [HN.out] at hb'
    obtain ⟨e0, e1, e2, e3, e4, g0, g1, g2, g3, g4⟩ := facts5 hb'
    have HB' := Lib.hid hb'
    by_cases hkn : k < n
    · clear hb' e1 e2 e3 e4 g0 g1 g2 g3 g4
      obtain ⟨s, hs⟩ : ∃ s, d.secs[k]? = some s := ⟨_, List.getElem?_eq_getElem (by rw [HN.out]; exact hkn)⟩
      obtain ⟨hs1, hs2, hs3⟩ := loses_step d.secs raw k s hs
      obtain ⟨b, cap', hv, hbg, s0, s1, s2, s3, s4, sf⟩ := HD.out.sec hs1
      injection hv with hA1 hA2 hA3
      subst hA1
      subst hA3
      have hfc : fcount (d.secs.take k) ≤ 4096 := Nat.le_trans (fcount_le _) (by rw [List.length_take]; omega)
      have HS1 := Lib.hid hs1
      have HS2 := Lib.hid hs2
      have HS3 := Lib.hid hs3
      have hsz := Lib.hid (HH.out.sized s (List.mem_of_getElem? hs))
      have HDP := Lib.hid (dpick_any A cap (fcount (d.secs.take k)) raw wr (HSR.out.only HO.out HA.out) HR.out hfc hl)
      clear hs hs1 hs2 hs3 hA2
      cases hfr : s.fresh
      · rw [hfr] at s4
        obtain ⟨q1, q2⟩ := HS3.out hfr
        have Q1 := Lib.hid q1
        have Q2 := Lib.hid q2
        clear q1 q2 hfr
        go_wp2_with fail
        refine ⟨⟨k + 1, by omega, by go_num, by rw [Q2.out], ?_, HO.out⟩, by simp [intOf]; omega⟩
        rw [Hid, ← Q1.out]
        exact HD.out
      · rw [hfr] at s4
        obtain ⟨q1, q2⟩ := HS2.out hfr
        have Q1 := Lib.hid q1
        have Q2 := Lib.hid q2
        clear q1 q2 hfr
        go_wp2_with fail
        refine HDP.out.mono ?_
        rintro e w2 ⟨rfl, rfl⟩
        have hln : d.secs.length = (Pl.loses (d.secs.take k) raw ++ d.secs.drop k).length := by rw [HLK.out, HN.out]
        have HLN := Lib.hid hln
        have ht3 := three_lt (raw.getD (fcount (d.secs.take k)) 0)
        obtain ⟨c, hc⟩ : ∃ c, Pl.three (raw.getD (fcount (d.secs.take k)) 0) = c := ⟨_, rfl⟩
        rw [hc] at ht3
        have HC := Lib.hid hc
        rw [hc]
        clear hln hc
        obtain rfl | rfl | rfl : c = 0 ∨ c = 1 ∨ c = 2 := by omega
        · go_wp2_with fail
          have hln := HLN.out
          have HD3 := HD.out
          rw [hln] at HD3
          have he : [(0, Value.string (tstr s.safe)), (2, Value.bool s.was), (4, Value.bool false)].foldl (fun xs p => xs.set p.1 p.2) (secCells s) = secCells (s.lose 0) := by simp [Pl.Sec.lose, secCells]
          obtain ⟨r1, r2⟩ := DiskAt.sets (d := ⟨Pl.loses (d.secs.take k) raw ++ d.secs.drop k, d.life⟩) (i := k) (s := s) HD3 HS1.out (s.lose 0) (lose_sized s 0 hsz.out) _ (by simp) he
          rw [HC.out] at Q1
          refine ⟨⟨k + 1, by omega, by go_num, by rw [Q2.out]; go_num, ?_, HO.out.trans r2 (fun k _ hk => .inr (by rw [hk]; rfl))⟩, by simp [intOf]; omega⟩
          rw [Q1.out, ← hln] at r1
          exact r1
        · go_wp2_with fail
          have hln := HLN.out
          have HD3 := HD.out
          rw [hln] at HD3
          have he : [(1, Value.string (tstr s.now)), (3, Value.bool false), (4, Value.bool false)].foldl (fun xs p => xs.set p.1 p.2) (secCells s) = secCells (s.lose 1) := by simp [Pl.Sec.lose, secCells]
          obtain ⟨r1, r2⟩ := DiskAt.sets (d := ⟨Pl.loses (d.secs.take k) raw ++ d.secs.drop k, d.life⟩) (i := k) (s := s) HD3 HS1.out (s.lose 1) (lose_sized s 1 hsz.out) _ (by simp) he
          rw [HC.out] at Q1
          refine ⟨⟨k + 1, by omega, by go_num, by rw [Q2.out]; go_num, ?_, HO.out.trans r2 (fun k _ hk => .inr (by rw [hk]; rfl))⟩, by simp [intOf]; omega⟩
          rw [Q1.out, ← hln] at r1
          exact r1
        · go_wp2_with fail
          have hln := HLN.out
          have HD3 := HD.out
          rw [hln] at HD3
          have he : [(2, Value.bool true), (3, Value.bool true), (4, Value.bool false)].foldl (fun xs p => xs.set p.1 p.2) (secCells s) = secCells (s.lose 2) := by simp [Pl.Sec.lose, secCells]
          obtain ⟨r1, r2⟩ := DiskAt.sets (d := ⟨Pl.loses (d.secs.take k) raw ++ d.secs.drop k, d.life⟩) (i := k) (s := s) HD3 HS1.out (s.lose 2) (lose_sized s 2 hsz.out) _ (by simp) he
          rw [HC.out] at Q1
          refine ⟨⟨k + 1, by omega, by go_num, by rw [Q2.out]; go_num, ?_, HO.out.trans r2 (fun k _ hk => .inr (by rw [hk]; rfl))⟩, by simp [intOf]; omega⟩
          rw [Q1.out, ← hln] at r1
          exact r1
    · obtain rfl : k = n := by omega
      go_wp2_with fail
      go_end0
      have ho : Only (· = g) wr (wr.setCell ⟨g, 1, none⟩ (.int .i64 (-1))) := (Only.refl (· = g) wr).setCell (p := ⟨g, 1, none⟩) (.inl rfl) _
      have h1 := HD.out.ofHead ho (-1) rd wr' sy' ⟨by omega, by omega⟩ (by have := HB'.out.set_ 1 (.int .i64 (-1)); rw [← HN.out] at this; exact this)
      have h2 : Pl.loses (d.secs.take d.secs.length) raw ++ d.secs.drop d.secs.length = Pl.loses d.secs raw := by rw [List.take_length, List.drop_length, List.append_nil]
      refine ⟨rfl, ?_, HO.out.trans ho (fun x _ e => .inl e)⟩
      have h3 := h1
      dsimp only at h3
      rw [← HN.out, h2] at h3
      exact h3

theorem kp_below {F : Nat → Prop} {a b : World} {B : Nat} (ho : Only F a b) (hF : ∀ k, F k → B ≤ k) (hB : B ≤ a.heap.size) : Below B a b :=
  ⟨ho.os, ho.tape, ho.output, ho.size, fun k hk => ho.block k (by omega) (fun hf => by have := hF k hf; omega)⟩
theorem Tryz.infoInt : (Tryz.prog.info? 3).map (fun i => (i.zero, i.size, i.bytes)) = some (some (.int .i64 0), 1, 8) := by kernel_rfl
theorem int_room {n m : Nat} (h : n + m ≤ 4398046511104) : ∀ old, old < n + m → Builtin.nextslicecap (n + m) old * 8 ≤ 281474976710656 := by
  intro old ho
  have := nextslicecap_le54 ho
  omega
/-- The raw numbers out of a script, from a place on. -/
def rawOf (s : ByteArray) (k : Nat) : List Int := ((s.data.toList.drop k).take 40).map (fun c => ((c.toNat : Nat) : Int))
theorem rawOf_raw (s : ByteArray) (k : Nat) : Raw (rawOf s k) := by
  intro c hc
  obtain ⟨x, _, rfl⟩ := List.mem_map.1 hc
  have := x.toNat_lt
  omega
theorem rawOf_length (s : ByteArray) (k : Nat) : (rawOf s k).length = min 40 (s.size - k) := by
  unfold rawOf
  rw [List.length_map, List.length_take, List.length_drop]
  rfl
theorem rawOf_get (s : ByteArray) (k j : Nat) (hj : j < 40) (h : k + j < s.size) : (rawOf s k)[j]? = some (((s[k + j]).toNat : Nat) : Int) := by
  unfold rawOf
  rw [List.getElem?_map, List.getElem?_take, if_pos hj, List.getElem?_drop, List.getElem?_eq_getElem (by simpa using h)]
  rfl

set_option maxHeartbeats 1000000 in
set_option maxRecDepth 100000 in
theorem raws_any (s : ByteArray) (k : Nat) (w : World) (hk : k ≤ 5000) (hs : s.size ≤ 4096) :
    Calls Tryz.prog 63 #[.string s, .int .i64 (k : Nat)] w fun e w' => ∃ A cap, e = .returned (.slice A (rawOf s k).length cap) ∧ w'.ownsRow w.heap.size 3 1 (.slice A (rawOf s k).length cap) (rawOf s k).length (iv (rawOf s k)) ∧ Below w.heap.size w w' := by
  obtain ⟨i0, hi, hz0, hz1, hz2⟩ := info_parts Tryz.infoInt
  obtain ⟨R, hR⟩ : ∃ R, rawOf s k = R := ⟨_, rfl⟩
  have hlen := rawOf_length s k
  rw [hR] at hlen ⊢
  obtain ⟨N, hN⟩ : ∃ N, R.length = N := ⟨_, rfl⟩
  have HR := Lib.hid hR
  have HL := Lib.hid hlen
  have HN := Lib.hid hN
  have hN40 : N ≤ 40 := by rw [← hN, hlen]; omega
  clear hR hlen hN
  go_enter Tryz.func63, Tryz.ntmps63
  go_wp2_with fail
  go_loopw [5, 6] (fun u i W => ∃ (x j cap : Nat) (A : Option Addr), x = k + j ∧ j ≤ N ∧ i = .int .i64 (x : Int) ∧ u = .slice A j cap ∧ Hid (W.ownsRow w.heap.size 3 1 (.slice A j cap) j (iv (R.take j))) ∧ Hid (Below w.heap.size w W)) (fun _ i _ => k + N - (intOf i).toNat)
  case atStart => exact ⟨k, 0, 0, none, rfl, Nat.zero_le _, rfl, rfl, World.ownsRow_nil _ _ _ _, Below.refl _ _⟩
  case round =>
    obtain ⟨x, j, cap, A, hx, hj, rfl, rfl, HO, HB⟩ := hrel
    by_cases hjn : j < N
    · have hjs : x < s.size := by have := HL.out; have := HN.out; omega
      obtain ⟨c, hc⟩ : ∃ c, s[x] = c := ⟨_, rfl⟩
      have hget := rawOf_get s k j (by omega) (by omega)
      rw [HR.out] at hget
      have hcx : s[k + j]'(by omega) = c := by rw [← hc]; congr 1; exact hx.symm
      rw [hcx] at hget
      have htk : Hid (iv (R.take (j + 1)) = iv (R.take j) ++ [.int .i64 ((c.toNat : Nat) : Int)]) := by
        rw [Hid, List.take_add_one, hget]
        simp [iv]
      have q1 : (x : Int) < (s.size : Int) := by omega
      have q2 : (x : Int) < (k : Int) + 40 := by omega
      have HX := Lib.hid hx
      have hcl := c.toNat_lt
      have hown2 := Lib.hid (HO.out.alloc (.cells #[.int .i64 ((c.toNat : Nat) : Int)] 3))
      have hsrc2 := Lib.hid (Src.of_blk (Blk.new wr 3 [.int .i64 ((c.toNat : Nat) : Int)]))
      have hbel2 := Lib.hid (HB.out.alloc (HB.out.size) (.cells #[.int .i64 ((c.toNat : Nat) : Int)] 3))
      have hroom := Lib.hid (int_room (n := j) (m := 1) (by omega))
      have h63 := Lib.hid (show j + 1 ≤ maxLen by simp only [maxLen]; omega)
      have hone : Hid (∀ u ∈ [Value.int .i64 ((c.toNat : Nat) : Int)], u.oneCell' = true) := by
        intro u hu
        simp at hu
        subst hu
        rfl
      have hbase2 : Hid (w.heap.size ≤ (wr.alloc (.cells #[.int .i64 ((c.toNat : Nat) : Int)] 3)).heap.size) := Nat.le_trans HB.out.size (by simp)
      clear hget hcx hx
      go_wp2_with (at_builtin
                   refine wpList_append_src _ rfl (.tmp 20) (.tmp 25) 138 rfl w.heap.size 3 i0 (.int .i64 0) 1 8 Tryz.underlying138 hi hz0 hz1 hz2 rfl (by decide) (.slice A j cap) j (iv (R.take j)) rfl hown2.out (some ⟨wr.heap.size, 0, none⟩) 1 1 [.int .i64 ((c.toNat : Nat) : Int)] rfl rfl hsrc2.out hone.out h63.out hroom.out hbase2.out ?_
                   intro v3 w3 hown3 hgrow3 hat3
                   obtain ⟨A3, cap3, rfl, _, _, _⟩ := own_src hown3)
      have hbel3 := hbel2.out.trans (kp_below (Only.of_grown_own hgrow3) (fun x hx => (hown2.out.lt x hx).1) hbase2.out)
      rw [← htk.out] at hown3
      exact ⟨⟨x + 1, j + 1, cap3, A3, by have := HX.out; omega, by omega, by go_num, rfl, hown3, hbel3⟩, by simp [intOf]; have := HX.out; omega⟩
    · obtain rfl : j = N := by omega
      have htk : R.take j = R := by rw [← HN.out, List.take_length]
      have hown := HO.out
      rw [htk] at hown
      have HO' := Lib.hid hown
      have hout : ¬ (x < s.size ∧ x < k + 40) := by have := HL.out; have := HN.out; omega
      clear hown htk
      by_cases h1 : x < s.size
      · have q2 : ¬ ((x : Int) < (k : Int) + 40) := by omega
        have q3 : decide ((x : Int) < (k : Int) + 40) = false := by simpa using q2
        have q1 : (x : Int) < (s.size : Int) := by omega
        clear h1 hout
        go_wp2_with fail
        go_ret
        refine ⟨A, cap, ?_⟩
        rw [HN.out]
        exact ⟨rfl, HO'.out, HB.out⟩
      · have q1 : ¬ ((x : Int) < (s.size : Int)) := by omega
        have q3 : decide ((x : Int) < (s.size : Int)) = false := by simpa using q1
        clear h1 hout
        go_wp2_with fail
        go_ret
        refine ⟨A, cap, ?_⟩
        rw [HN.out]
        exact ⟨rfl, HO'.out, HB.out⟩

end Go.Proofs.YtljmklohgpaopaaGreatDoor
