/- Plain: the harness over a log whose disk may die: what it keeps from step to step. No program in sight. The walks of the disk's Crash and Die, and of the small functions of the harness over a disk that may die. -/
import Derived.Test.YtljmklohgpaopaaDoorMgLogged13
import Derived.Test.YtljmklohgpaopaaDoorMgLogged12
set_option linter.unusedVariables false
set_option linter.unusedSimpArgs false

namespace Go.Proofs.YtljmklohgpaopaaDoor
namespace Pl

theorem flat_append (a b : List (List UInt8)) : flat (a ++ b) = flat a ++ flat b := by unfold flat; rw [List.flatMap_append]
theorem flat_count : ∀ all : List (List UInt8), (∀ p ∈ all, 1 ≤ p.length) → all.length ≤ (flat all).length := by
  intro all
  induction all with
  | nil => intro _; exact Nat.zero_le _
  | cons a r ih =>
    intro h
    have h1 := h a (by simp)
    have h2 := ih (fun p hp => h p (by simp [hp]))
    have h3 := pieces_length a.length a (Nat.le_refl _) h1
    unfold chunks at h3
    unfold flat at h2 ⊢
    rw [List.flatMap_cons, List.length_append, List.length_cons, h3]
    omega
theorem flat_one (p : List UInt8) : flat [p] = pieces p := by simp [flat]
theorem life_change {d : Dk} (h : d.alive = true) (c : Ch) (h0 : d.life ≠ 0) : (d.change c).life ≠ 0 := by
  unfold Dk.change
  rw [if_pos h]
  unfold Dk.alive at h
  simp at h
  unfold Dk.tick
  show (if 0 < d.life then d.life - 1 else d.life) ≠ 0
  split <;> omega
theorem life_run {l : List Ch} : ∀ {d : Dk}, d.life ≠ 0 → (d.run l).2 = true → (d.run l).1.life ≠ 0 := by
  induction l with
  | nil => intro d h _; exact h
  | cons c r ih =>
    intro d h hr
    rw [Dk.run_cons] at hr ⊢
    by_cases ha : d.alive = true
    · rw [if_pos ha] at hr ⊢
      exact ih (life_change ha c h) hr
    · rw [if_neg ha] at hr
      cases hr
theorem life_dead {d : Dk} (h : ¬ d.alive = true) (c : Ch) : (d.change c).life = 0 ∧ (d.change c).secs = d.secs := by
  unfold Dk.change
  rw [if_neg h]
  unfold Dk.alive at h
  simp at h
  refine ⟨?_, rfl⟩
  show (if 0 < d.life then d.life - 1 else d.life) = 0
  split <;> omega
theorem change_secs {d : Dk} (h : d.alive = true) (c : Ch) : (d.change c).secs = c.on d.secs := by
  unfold Dk.change
  rw [if_pos h]

/-- The harness: the disk, the log; what it may have, of which so many are safe; a Reset under way; the disk has failed. -/
structure KOk (d : Dk) (l : Lg) (all : List (List UInt8)) (safe : Nat) (rs bad : Bool) (data : Nat) : Prop where
  first : l.first = 1
  dat : l.data = data
  lall : ∃ ex, all = l.all ++ ex ∧ (bad = false → ex = [])
  small : ∀ p ∈ l.all, 1 ≤ p.length ∧ p.length ≤ 2000
  next : l.next = (flat l.all).length
  lbad : l.bad = bad
  safe_le : safe ≤ l.all.length
  life : (d.life = 0) ↔ bad = true
  high : d.life ≤ 9223372036854775807 ∧ -1 ≤ d.life
  resets : rs = true → bad = true
  held : ∃ tl ns, Held d 1 data l.epoch (flat l.all ++ tl) ns rs ∧ (∀ x ∈ tl, x.1 = true) ∧ (flat (l.all.take safe)).length ≤ ns ∧ ns ≤ (flat l.all ++ tl).length ∧ (bad = false → tl = [])

theorem pieces_tail (p : List UInt8) (k : Nat) (hk : k < (pieces p).length) : ∀ x ∈ (pieces p).take k, x.1 = true := by
  intro x hx
  obtain ⟨i, hi, hxi⟩ := List.getElem_of_mem hx
  have hi' : i < k := by rw [List.length_take] at hi; omega
  refine pieces_more p.length p i x (Nat.le_refl _) (by omega) ?_
  rw [List.getElem_take] at hxi
  rw [List.getElem?_eq_getElem (by omega), hxi]
theorem life_high {l : List Ch} : ∀ {d : Dk}, d.life ≤ 9223372036854775807 ∧ -1 ≤ d.life → (d.run l).1.life ≤ 9223372036854775807 ∧ -1 ≤ (d.run l).1.life := by
  have hc : ∀ {d : Dk} (c : Ch), d.life ≤ 9223372036854775807 ∧ -1 ≤ d.life → (d.change c).life ≤ 9223372036854775807 ∧ -1 ≤ (d.change c).life := by
    intro d c h
    have : (d.change c).life = if 0 < d.life then d.life - 1 else d.life := by
      unfold Dk.change
      split <;> rfl
    rw [this]
    split <;> omega
  induction l with
  | nil => intro d h; exact h
  | cons c r ih =>
    intro d h
    rw [Dk.run_cons]
    split
    · exact ih (hc c h)
    · exact hc c h
theorem KOk.appends {d : Dk} {l : Lg} {all : List (List UInt8)} {safe data : Nat} {rs bad : Bool} (h : KOk d l all safe rs bad data) (p : List UInt8) (hp : 1 ≤ p.length ∧ p.length ≤ 2000) :
    l.append d p = (l, d, 5) ∨ (bad = true ∧ l.append d p = (l, d, 3)) ∨ (bad = false ∧ ∃ l' d', l.append d p = (l', d', 3) ∧ KOk d' l' (all ++ [p]) safe rs true data ∧ l'.epoch = l.epoch) ∨
    (bad = false ∧ ∃ l' d', l.append d p = (l', d', 0) ∧ KOk d' l' (all ++ [p]) safe rs false data ∧ l'.epoch = l.epoch) := by
  unfold Lg.append
  rw [if_neg (by omega)]
  by_cases hf : l.data < l.next + chunks p.length
  · rw [if_pos hf]; exact .inl rfl
  rw [if_neg hf]
  right
  have hb := h.lbad
  cases bad with
  | true => rw [if_pos hb]; exact .inl ⟨rfl, rfl⟩
  | false =>
    rw [if_neg (by rw [hb]; simp)]
    right
    obtain ⟨ex, hex, hex0⟩ := h.lall
    obtain rfl := hex0 rfl
    rw [List.append_nil] at hex
    obtain ⟨tl, ns, hh, htl, hns, hnl, ht⟩ := h.held
    obtain rfl := ht rfl
    rw [List.append_nil] at hh hnl
    have hrs : rs = false := by
      cases hr : rs with
      | false => rfl
      | true => have := h.resets hr; cases this
    have hlen := pieces_length p.length p (Nat.le_refl _) hp.1
    have hfit : (flat l.all).length + (pieces p).length ≤ l.data := by rw [hlen, ← h.next]; omega
    have hsm := pieces_small p.length p (Nat.le_refl _)
    have hl1 := h.first
    have hld := h.dat
    have hrun := Held.runs l (pieces p) (d := d) (ns := ns) (ps := flat l.all) (r := rs) (by rw [hl1, hld]; exact hh) hnl hsm hfit
    rw [← h.next] at hrun
    have hhi := life_high (l := l.laid l.next (pieces p)) h.high
    rcases hr : d.run (l.laid l.next (pieces p)) with ⟨d', b⟩
    rw [hr] at hrun hhi
    rcases hrun with ⟨rfl, h1⟩ | ⟨rfl, h0, k, hk, h1⟩
    · right
      have hl0 : d'.life ≠ 0 := by
        have := life_run (l := l.laid l.next (pieces p)) (d := d) (fun e => by have := h.life.1 e; cases this) (by rw [hr])
        rw [hr] at this
        exact this
      refine ⟨rfl, _, _, rfl, ⟨h.first, h.dat, ⟨[], by rw [List.append_nil, hex], fun _ => rfl⟩, ?_, ?_, hb, by show _ ≤ (l.all ++ [p]).length; rw [List.length_append]; have := h.safe_le; omega, ⟨fun e => absurd e hl0, fun e => by cases e⟩, hhi, by rw [hrs]; exact (fun e => by cases e), [], ns, ?_, by simp, ?_, ?_, fun _ => rfl⟩, rfl⟩
      · intro q hq
        change q ∈ l.all ++ [p] at hq
        rcases List.mem_append.1 hq with hq | hq
        · exact h.small q hq
        · rw [List.mem_singleton] at hq; subst hq; exact hp
      · show l.next + chunks p.length = _
        rw [flat_append, flat_one, List.length_append, hlen, h.next]
      · show Held d' 1 data l.epoch (flat (l.all ++ [p]) ++ []) ns rs
        rw [List.append_nil, flat_append, flat_one, ← hl1, ← hld]; exact h1
      · show (flat ((l.all ++ [p]).take safe)).length ≤ ns
        rw [List.take_append_of_le_length h.safe_le]; exact hns
      · show ns ≤ (flat (l.all ++ [p]) ++ []).length
        rw [List.append_nil, flat_append, List.length_append]; omega
    · left
      refine ⟨rfl, _, _, rfl, ⟨h.first, h.dat, ⟨[p], by show all ++ [p] = l.all ++ [p]; rw [hex], fun e => by cases e⟩, h.small, h.next, rfl, h.safe_le, ⟨fun _ => rfl, fun _ => h0⟩, hhi, fun _ => rfl, (pieces p).take k, ns, ?_, pieces_tail p k hk, hns, by show ns ≤ (flat l.all ++ (pieces p).take k).length; rw [List.length_append]; omega, fun e => by cases e⟩, rfl⟩
      show Held d' 1 data l.epoch _ ns rs
      rw [← hl1, ← hld]; exact h1
theorem KOk.syncs {d : Dk} {l : Lg} {all : List (List UInt8)} {safe data : Nat} {rs bad : Bool} (h : KOk d l all safe rs bad data) :
    (∃ l' d', l.sync d = (l', d', 3) ∧ KOk d' l' all safe rs true data ∧ l'.epoch = l.epoch) ∨
    (bad = false ∧ ∃ d', l.sync d = (l, d', 0) ∧ KOk d' l all all.length rs false data) := by
  unfold Lg.sync
  have hb := h.lbad
  cases bad with
  | true => rw [if_pos hb]; exact .inl ⟨l, d, rfl, h, rfl⟩
  | false =>
    rw [if_neg (by rw [hb]; simp)]
    obtain ⟨tl, ns, hh, htl, hns, hnl, ht⟩ := h.held
    obtain rfl := ht rfl
    obtain ⟨ex, hex, hex0⟩ := h.lall
    obtain rfl := hex0 rfl
    rw [List.append_nil] at hex
    have hhi := life_high (l := [.sy]) h.high
    rw [Dk.run_cons] at hhi ⊢
    by_cases ha : d.alive = true
    · rw [if_pos ha, Dk.run_nil] at hhi ⊢
      right
      have hl0 := life_change ha .sy (fun e => by have := h.life.1 e; cases this)
      refine ⟨rfl, _, rfl, ⟨h.first, h.dat, h.lall, h.small, h.next, hb, by rw [hex]; exact Nat.le_refl _, ⟨fun e => absurd e hl0, fun e => by cases e⟩, hhi, h.resets, [], (flat l.all).length, ?_, by simp, by rw [hex, List.take_length]; exact Nat.le_refl _, by rw [List.append_nil]; exact Nat.le_refl _, fun _ => rfl⟩⟩
      have h1 := hh.syncs
      rw [List.append_nil] at h1 ⊢
      have h2 := h1.tick (d.change .sy).life
      rw [show (d.change .sy) = ⟨Ch.on .sy d.secs, (d.change .sy).life⟩ by rw [← change_secs ha .sy]]
      exact h2
    · rw [if_neg ha] at hhi ⊢
      left
      obtain ⟨hl0, hsc⟩ := life_dead ha .sy
      refine ⟨_, _, rfl, ⟨h.first, h.dat, h.lall.elim (fun ex hx => ⟨ex, hx.1, fun e => by cases e⟩), h.small, h.next, rfl, h.safe_le, ⟨fun _ => rfl, fun _ => hl0⟩, hhi, fun _ => rfl, [], ns, ?_, by simp, hns, hnl, fun e => by cases e⟩, rfl⟩
      have h2 := hh.tick (d.change .sy).life
      rw [show (d.change .sy) = ⟨d.secs, (d.change .sy).life⟩ by rw [← hsc]]
      exact h2
theorem KOk.resets_ {d : Dk} {l : Lg} {all : List (List UInt8)} {safe data : Nat} {rs bad : Bool} (h : KOk d l all safe rs bad data) (he : l.epoch + 2 < 256 ^ 8) :
    (∃ l' d', l.reset d = (l', d', 3) ∧ KOk d' l' all safe (rs || !bad) true data ∧ l'.epoch = l.epoch) ∨
    (bad = false ∧ rs = false ∧ ∃ l' d', l.reset d = (l', d', 0) ∧ KOk d' l' [] 0 false false data ∧ l'.epoch = l.epoch + 1) := by
  unfold Lg.reset
  have hb := h.lbad
  cases bad with
  | true => rw [if_pos hb]; exact .inl ⟨l, d, rfl, by simpa using h, rfl⟩
  | false =>
    rw [if_neg (by rw [hb]; simp)]
    obtain ⟨tl, ns, hh, htl, hns, hnl, ht⟩ := h.held
    obtain rfl := ht rfl
    have hrs : rs = false := by
      cases hr : rs with
      | false => rfl
      | true => have := h.resets hr; cases this
    have hl1 := h.first
    have hhi := life_high (l := [.wr (l.first + (l.epoch + 1) % 2) (slotText (l.epoch + 1)), .sy]) h.high
    rw [hl1] at hhi ⊢
    rw [Dk.run_cons] at hhi ⊢
    by_cases ha : d.alive = true
    · rw [if_pos ha, Dk.run_cons] at hhi ⊢
      have hsc := change_secs ha (.wr (1 + (l.epoch + 1) % 2) (slotText (l.epoch + 1)))
      have hl0 := life_change ha (.wr (1 + (l.epoch + 1) % 2) (slotText (l.epoch + 1))) (fun e => by have := h.life.1 e; cases this)
      obtain ⟨d1, hd1⟩ : ∃ d1, d.change (.wr (1 + (l.epoch + 1) % 2) (slotText (l.epoch + 1))) = d1 := ⟨_, rfl⟩
      rw [hd1] at hhi hsc hl0 ⊢
      by_cases ha1 : d1.alive = true
      · rw [if_pos ha1, Dk.run_nil] at hhi ⊢
        right
        have hl2 := life_change ha1 .sy hl0
        refine ⟨rfl, hrs, _, _, rfl, ⟨rfl, h.dat, ⟨[], rfl, fun _ => rfl⟩, by simp, rfl, hb, Nat.le_refl _, ⟨fun e => absurd e hl2, fun e => by cases e⟩, hhi, (fun e => by cases e), [], 0, ?_, by simp, Nat.zero_le _, Nat.zero_le _, fun _ => rfl⟩, rfl⟩
        have h1 := (hh.emptied he).tick (d1.change .sy).life
        rw [show (d1.change .sy) = ⟨Ch.on .sy d1.secs, (d1.change .sy).life⟩ by rw [← change_secs ha1 .sy], hsc]
        exact h1
      · rw [if_neg ha1] at hhi ⊢
        left
        obtain ⟨hl2, hsc2⟩ := life_dead ha1 .sy
        refine ⟨_, _, rfl, ⟨rfl, h.dat, h.lall.elim (fun ex hx => ⟨ex, hx.1, fun e => by cases e⟩), h.small, h.next, rfl, h.safe_le, ⟨fun _ => rfl, fun _ => hl2⟩, hhi, fun _ => rfl, [], ns, ?_, by simp, hns, hnl, fun e => by cases e⟩, rfl⟩
        have h1 := hh.slots.tick (d1.change .sy).life
        rw [show (d1.change .sy) = ⟨d1.secs, (d1.change .sy).life⟩ by rw [← hsc2], hsc]
        simpa using h1
    · rw [if_neg ha] at hhi ⊢
      left
      obtain ⟨hl0, hsc⟩ := life_dead ha (.wr (1 + (l.epoch + 1) % 2) (slotText (l.epoch + 1)))
      refine ⟨_, _, rfl, ⟨rfl, h.dat, h.lall.elim (fun ex hx => ⟨ex, hx.1, fun e => by cases e⟩), h.small, h.next, rfl, h.safe_le, ⟨fun _ => rfl, fun _ => hl0⟩, hhi, fun _ => rfl, [], ns, ?_, by simp, hns, hnl, fun e => by cases e⟩, rfl⟩
      have h1 := hh.resets.tick (d.change (.wr (1 + (l.epoch + 1) % 2) (slotText (l.epoch + 1)))).life
      rw [show (d.change (.wr (1 + (l.epoch + 1) % 2) (slotText (l.epoch + 1)))) = ⟨d.secs, (d.change (.wr (1 + (l.epoch + 1) % 2) (slotText (l.epoch + 1)))).life⟩ by rw [← hsc]]
      simpa using h1
/-- How many it may have. -/
theorem KOk.count {d : Dk} {l : Lg} {all : List (List UInt8)} {safe data : Nat} {rs bad : Bool} (h : KOk d l all safe rs bad data) : l.all.length ≤ data ∧ all.length ≤ l.all.length + 1 ∨ bad = true := by
  cases bad with
  | true => exact .inr rfl
  | false =>
    obtain ⟨ex, hex, hex0⟩ := h.lall
    obtain rfl := hex0 rfl
    obtain ⟨tl, ns, hh, _⟩ := h.held
    have h1 := flat_count l.all (fun p hp => (h.small p hp).1)
    have h2 := hh.fit
    rw [List.length_append] at h2
    rw [List.append_nil] at hex
    rw [hex]
    left
    omega
theorem KOk.dies {d : Dk} {l : Lg} {all : List (List UInt8)} {safe data : Nat} {rs bad : Bool} (h : KOk d l all safe rs bad data) (k : Int) (hk : 1 ≤ k ∧ k ≤ 9223372036854775807) : KOk (d.die k) l all safe rs bad data := by
  unfold Dk.die
  by_cases h0 : d.life = 0
  · rw [if_pos h0]; exact h
  · rw [if_neg h0]
    have hkk : ¬ k < 0 := by omega
    rw [if_neg hkk]
    obtain ⟨tl, ns, hh, h1⟩ := h.held
    exact ⟨h.first, h.dat, h.lall, h.small, h.next, h.lbad, h.safe_le, ⟨fun e => by exfalso; change k = 0 at e; omega, fun e => absurd (h.life.2 e) h0⟩, ⟨by show k ≤ _; omega, by show -1 ≤ k; omega⟩, h.resets, tl, ns, hh.tick k, h1⟩

/-- Behind a crash: this is there. -/
structure DOk (d : Dk) (data e : Nat) (al : List (List UInt8)) : Prop where
  dirty : ∃ stop, Dirty d 1 data e al stop
  still : ∀ s ∈ d.secs, s.fresh = false
theorem KOk.crashes {d : Dk} {l : Lg} {all : List (List UInt8)} {safe data : Nat} {rs bad : Bool} (h : KOk d l all safe rs bad data) (raw : List Int) :
    ∃ e al, DOk (d.crash raw) data e al ∧ e ≤ l.epoch + 1 ∧ ((∃ j, al = all.take j ∧ safe ≤ j ∧ j ≤ all.length) ∨ (rs = true ∧ al = [])) := by
  obtain ⟨tl, ns, hh, htl, hns, hnl, ht⟩ := h.held
  obtain ⟨_, c2, _⟩ := crash_fines hh.fine raw
  rcases hh.crashes htl h.small safe h.safe_le hns raw with ⟨j, stop, h1, h2, h3⟩ | ⟨h1, h2⟩
  · obtain ⟨ex, hex, _⟩ := h.lall
    refine ⟨_, _, ⟨⟨stop, h3⟩, c2⟩, by omega, .inl ⟨j, ?_, h1, by rw [hex, List.length_append]; omega⟩⟩
    rw [hex, List.take_append_of_le_length h2]
  · exact ⟨_, _, ⟨⟨0, h2⟩, c2⟩, by omega, .inr ⟨h1, rfl⟩⟩
theorem DOk.dies {d : Dk} {data e : Nat} {al : List (List UInt8)} (h : DOk d data e al) (k : Int) : DOk (d.die k) data e al := by
  unfold Dk.die
  split
  · exact h
  · obtain ⟨stop, hd⟩ := h.dirty
    exact ⟨⟨stop, hd.tick _⟩, h.still⟩
theorem DOk.crash {d : Dk} {data e : Nat} {al : List (List UInt8)} (h : DOk d data e al) (raw : List Int) : DOk (d.crash raw) data e al := by
  obtain ⟨stop, hd⟩ := h.dirty
  exact ⟨⟨stop, hd.crash raw⟩, (crash_fines hd.fine raw).2.1⟩
theorem DOk.opens {d : Dk} {data e : Nat} {al : List (List UInt8)} (h : DOk d data e al) (he : e + 1 < 256 ^ 8) :
    ∃ d', (openLog d 1 (data + 2) = (d', .inl 3) ∨ ∃ l', openLog d 1 (data + 2) = (d', .inr l')) ∧ ∀ raw, DOk (d'.crash raw) data e al := by
  obtain ⟨stop, hd⟩ := h.dirty
  obtain ⟨d', h1, h2⟩ := hd.opens h.still he
  refine ⟨d', ?_, fun raw => ⟨⟨stop, h1.crash raw⟩, (crash_fines h1.fine raw).2.1⟩⟩
  rcases h2 with ⟨h2, _⟩ | ⟨h2, _⟩
  · exact .inl h2
  · exact .inr ⟨_, h2⟩
theorem openLog_life {d d' : Dk} {first n : Nat} {x : Nat ⊕ Lg} (hl : d.life < 0) (h : openLog d first n = (d', x)) : d'.life = d.life := by
  unfold openLog at h
  rw [if_neg (by omega)] at h
  dsimp only at h
  split at h
  · injection h with h1 _; rw [← h1]
  · rw [run_of hl] at h
    injection h with h1 _
    rw [← h1]
theorem DOk.lives {d : Dk} {data e : Nat} {al : List (List UInt8)} (h : DOk d data e al) (he : e + 1 < 256 ^ 8) (hl : d.life = -1) :
    ∃ d', openLog d 1 (data + 2) = (d', .inr ⟨1, data, e, (flat al).length, al, false⟩) ∧ KOk d' ⟨1, data, e, (flat al).length, al, false⟩ al al.length false false data := by
  obtain ⟨stop, hd⟩ := h.dirty
  obtain ⟨d', h1, h2⟩ := hd.opens h.still he
  rcases h2 with ⟨h2, h3⟩ | ⟨h2, h3⟩
  · omega
  · have hlf := openLog_life (by omega) h2
    refine ⟨d', h2, ⟨rfl, rfl, ⟨[], by rw [List.append_nil], fun _ => rfl⟩, hd.small, rfl, rfl, Nat.le_refl _, ⟨fun e => by omega, fun e => by cases e⟩, ⟨by omega, by omega⟩, (fun e => by cases e), [], (flat al).length, by rw [List.append_nil]; exact h3, by simp, by rw [List.take_length]; exact Nat.le_refl _, by rw [List.append_nil]; exact Nat.le_refl _, fun _ => rfl⟩⟩

theorem flush_still (l : List Sec) : ∀ s ∈ Ch.on .sy l, s.fresh = false := by
  intro s hs
  obtain ⟨y, _, rfl⟩ := List.mem_map.1 hs
  unfold Sec.flush
  split
  · rfl
  · next h => simpa using h
theorem fines_fold {l : List Ch} : ∀ {s : List Sec}, Fines s → (∀ c ∈ l, c.fits) → Fines (l.foldl (fun s c => c.on s) s) := by
  induction l with
  | nil => intro s h _; exact h
  | cons c r ih =>
    intro s h hc
    rw [List.foldl_cons]
    exact ih (fines_on h c (hc c (by simp))) (fun x hx => hc x (by simp [hx]))
theorem new_fines (n : Int) : Fines (Dk.new n).secs := by
  intro x hx
  have := List.eq_of_mem_replicate hx
  subst this
  exact ⟨List.length_replicate, List.length_replicate, (fun e => by cases e), fun _ => ⟨rfl, fun _ => rfl⟩⟩
/-- A log that is created on a new disk. -/
theorem created (m : Int) (data : Nat) (hn : 2 ≤ data) (hn2 : data + 2 < 4294967296) (hr : 1 + (data + 2) ≤ (Dk.new m).secs.length) :
    ∃ d', createLog (Dk.new m) 1 (data + 2) = (d', 0) ∧ d'.secs.length = (Dk.new m).secs.length ∧ LogOk d' ⟨1, data, 1, 0, [], false⟩ ∧ KOk d' ⟨1, data, 1, 0, [], false⟩ [] 0 false false data := by
  obtain ⟨d', hc, hl, hok⟩ := create_ok (d := Dk.new m) (by show (-1 : Int) < 0; omega) (new_sound m) 1 (data + 2) (by omega) (by omega) (by omega)
  have hok' : LogOk d' ⟨1, data, 1, 0, [], false⟩ := hok
  refine ⟨d', hc, hl, hok', ?_⟩
  have hlive : (Dk.new m).life < 0 := by show (-1 : Int) < 0; omega
  have hd' : d' = ⟨Ch.on .sy (Ch.on (.wr (1 + 1) (slotText 1)) (Ch.on .sy (((List.range (data + 2)).map (fun i => Ch.wr (1 + i) [])).foldl (fun s c => c.on s) (Dk.new m).secs))), -1⟩ := by
    unfold createLog createOps at hc
    rw [run_of hlive, List.foldl_append] at hc
    injection hc with hc _
    rw [← hc]
    rfl
  have hfin : Fines d'.secs := by
    rw [hd']
    refine fines_on (fines_on (fines_on (fines_fold (new_fines m) ?_) .sy trivial) (.wr _ (slotText 1)) (by simp [Ch.fits, slotText, be_length])) .sy trivial
    intro c hc
    obtain ⟨i, _, rfl⟩ := List.mem_map.1 hc
    simp [Ch.fits]
  have hst : ∀ s ∈ d'.secs, s.fresh = false := by rw [hd']; exact flush_still _
  have hlife : d'.life = -1 := by rw [hd']
  have hmay : ∀ {j o}, May d'.secs j o → o = d'.look j := fun ho => may_still hst d'.life ho
  have hslot : d'.look (1 + 1) = some (slotText 1 ++ zeros (256 - (slotText 1).length)) := by
    rw [hd', look_sy, look_wr _ _ _ _ _ (by rw [on_length, foldl_length]; omega), if_pos rfl]
  have hmx := hok'.slots
  refine ⟨rfl, rfl, ⟨[], rfl, fun _ => rfl⟩, by simp, rfl, rfl, Nat.le_refl _, ⟨fun e => by omega, fun e => by cases e⟩, ⟨by omega, by omega⟩, (fun e => by cases e), [], 0, ⟨hfin, hok'.room, hok'.data.2, ⟨Nat.le_refl _, by show 1 + 1 < 256 ^ 8; decide⟩, ?_, ?_, Nat.zero_le _, by simp [flat], ?_, ?_, ?_, ?_, ?_⟩, by simp, Nat.zero_le _, Nat.zero_le _, fun _ => rfl⟩
  · intro o ho
    rw [hmay ho]
    show slotOf (d'.look (1 + 1)) = 1
    rw [hslot]
    exact slotOf_slot 1 _ (by decide)
  · intro o ho
    rw [hmay ho]
    left
    change slotOf (d'.look (1 + (1 + 1) % 2)) ≤ 1
    rw [show (1 + (1 + 1) % 2 : Nat) = 1 from rfl]
    have h1 : max (slotOf (d'.look 1)) (slotOf (d'.look (1 + 1))) = 1 := hmx
    omega
  · intro i x o hi; omega
  · intro i x o hx; simp [flat] at hx
  · intro i o _ hd ho s hs
    rw [hmay ho] at hs
    exact hok'.clean i s (Nat.zero_le _) hd hs
  · intro i o hd ho s hs hh
    rw [hmay ho] at hs
    exact hok'.old i s hd hs hh
  · intro i x hx; simp [flat] at hx
end Pl
end Go.Proofs.YtljmklohgpaopaaDoor

namespace Go.Proofs.YtljmklohgpaopaaDoor
open Go.RowKit

/-- Raw numbers as cells. -/
def iv (l : List Int) : List Value := l.map (fun x => .int .i64 x)
theorem iv_get (l : List Int) (k : Nat) (c : Int) (h : l[k]? = some c) : (iv l)[k]? = some (.int .i64 c) := by simp [iv, h]
theorem getD_some {l : List Int} {k : Nat} (h : k < l.length) : l[k]? = some (l.getD k 0) := by
  rw [List.getD_eq_getElem?_getD, List.getElem?_eq_getElem h]
  rfl
def Raw (l : List Int) : Prop := ∀ c ∈ l, 0 ≤ c ∧ c ≤ 255

set_option maxHeartbeats 1000000 in
theorem dpick_any (A : Option Addr) (cap k : Nat) (l : List Int) (w : World) (hs : Src w A (iv l)) (hr : Raw l) (hk : k ≤ 4096) (hl : l.length ≤ 4096) :
    Calls Tryd.prog 74 #[.slice A l.length cap, .int .i64 (k : Nat)] w fun e w' => e = .returned (.int .i64 (Pl.three (l.getD k 0) : Nat)) ∧ w = w' := by
  by_cases hkl : k < l.length
  · have hg := getD_some hkl
    obtain ⟨c, hc⟩ : ∃ c, l.getD k 0 = c := ⟨_, rfl⟩
    rw [hc] at hg
    have hcr := hr c (List.mem_of_getElem? hg)
    obtain ⟨b, off, rfl, hcell⟩ := hs.at_ k _ (iv_get l k c hg)
    have hth : ((Pl.three c : Nat) : Int) = c % 3 := by
      unfold Pl.three
      rw [if_neg (by omega)]
      omega
    rw [hc, hth]
    have hn : ¬ c < 0 := by omega
    have hm : c.tmod 3 = c % 3 := Int.tmod_eq_emod_of_nonneg (by omega)
    have hd : decide (c < 0) = false := by simpa using hn
    have hge : ¬ ((l.length : Int) ≤ (k : Int)) := by omega
    have hge2 : decide ((l.length : Int) ≤ (k : Int)) = false := by simpa using hge
    have hki : (k : Int) < (l.length : Int) := by omega
    clear hg hc hs hr hth
    go_enter Tryd.func74, Tryd.ntmps74
    go_wp2_with fail
    go_ret
    exact ⟨rfl, rfl⟩
  · have : l.getD k 0 = 0 := by rw [List.getD_eq_getElem?_getD, List.getElem?_eq_none (by omega)]; rfl
    rw [this]
    have hge : ((l.length : Int) ≤ (k : Int)) := by omega
    clear hs hr this
    go_enter Tryd.func74, Tryd.ntmps74
    go_wp2_with fail
    go_ret
    exact ⟨rfl, rfl⟩

set_option maxHeartbeats 1000000 in
theorem die_any (g : Nat) (v : Value) (d : Pl.Dk) (rd : Int) (k : Int) (w : World) (h : DiskAt w g v d rd) (hk : 0 ≤ k ∧ k ≤ 9223372036854775807) :
    Calls Tryd.prog 47 #[.pointer (some ⟨g, 0, none⟩), .int .i64 k] w fun e w' => e = .returned (.tuple #[]) ∧ DiskAt w' g v (d.die k) rd ∧ Only (dF g v) w w' := by
  obtain ⟨wr, sy, hb⟩ := h.blk
  obtain ⟨c0, c1, c2, c3, c4, f0, f1, f2, f3, f4⟩ := facts5 hb
  have HD := Lib.hid h
  have HB := Lib.hid hb
  have hmx : max k 0 = k := by omega
  clear h hb
  by_cases h0 : d.life = 0
  · have hd : d.die k = d := by unfold Pl.Dk.die; rw [if_pos h0]
    rw [h0] at c1
    rw [hd]
    go_enter Tryd.func47, Tryd.ntmps47
    go_wp2_with fail
    go_end0
    exact ⟨rfl, HD.out, Only.refl _ _⟩
  · have hd : d.die k = ⟨d.secs, k⟩ := by unfold Pl.Dk.die; rw [if_neg h0, if_neg (by omega)]
    rw [hd]
    have hne : (d.life == 0) = false := by simpa using h0
    go_enter Tryd.func47, Tryd.ntmps47
    go_wp2_with fail
    go_end0
    have ho : Only (· = g) w (w.setCell ⟨g, 1, none⟩ (.int .i64 k)) := (Only.refl (· = g) w).setCell (p := ⟨g, 1, none⟩) (.inl rfl) _
    exact ⟨rfl, HD.out.ofHead ho k rd wr sy ⟨by omega, hk.2⟩ (HB.out.set_ 1 _), ho.mono (fun x _ e => .inl e)⟩

def pickOf (c n : Int) : Int := (if c < 0 then -(c + 1) else c) % n
set_option maxHeartbeats 1000000 in
theorem kpick_any (c : Int) (n : Int) (w : World) (hc : -9223372036854775808 ≤ c ∧ c ≤ 9223372036854775807) (hn : 1 ≤ n ∧ n ≤ 1000000) :
    Calls Tryd.prog 20 #[.int .i64 c, .int .i64 n] w fun e w' => e = .returned (.int .i64 (pickOf c n)) ∧ w = w' := by
  unfold pickOf
  by_cases h : c < 0
  · rw [if_pos h]
    have hm : (-(c + 1)).tmod n = (-(c + 1)) % n := Int.tmod_eq_emod_of_nonneg (by omega)
    go_enter Tryd.func20, Tryd.ntmps20
    go_wp2_with fail
    go_ret
    exact ⟨rfl, rfl⟩
  · rw [if_neg h]
    have hm : c.tmod n = c % n := Int.tmod_eq_emod_of_nonneg (by omega)
    go_enter Tryd.func20, Tryd.ntmps20
    go_wp2_with fail
    go_ret
    exact ⟨rfl, rfl⟩

theorem fine_any (k : Int) (w : World) :
    Calls Tryd.prog 21 #[errA k ⟨#[]⟩] w fun e w' => e = .returned (.bool (k == 0)) ∧ Below w.heap.size w w' := by
  have q := eql_err
  unfold errA
  go_enter Tryd.func21, Tryd.ntmps21
  go_wp2_with fail
  go_ret
  refine ⟨?_, (Below.refl _ _).alloc (Nat.le_refl _) _⟩
  simp
theorem failed_any (k : Int) (w : World) :
    Calls Tryd.prog 50 #[errA k ⟨#[]⟩] w fun e w' => e = .returned (.bool (k == 3)) ∧ Below w.heap.size w w' := by
  have q := eql_err
  unfold errA
  go_enter Tryd.func50, Tryd.ntmps50
  go_wp2_with fail
  go_ret
  refine ⟨?_, (Below.refl _ _).alloc (Nat.le_refl _) _⟩
  simp

/-- How many of some sectors are not safe. -/
def fcount (l : List Pl.Sec) : Nat := (l.filter (·.fresh)).length
theorem fcount_le (l : List Pl.Sec) : fcount l ≤ l.length := List.length_filter_le _ _
theorem loses_append : ∀ (a b : List Pl.Sec) (raw : List Int), Pl.loses (a ++ b) raw = Pl.loses a raw ++ Pl.loses b (raw.drop (fcount a))
  | [], b, raw => rfl
  | s :: a, b, raw => by
    rw [List.cons_append, Pl.loses, Pl.loses]
    by_cases h : s.fresh = true
    · rw [if_pos h, if_pos h, loses_append a b raw.tail, List.cons_append]
      congr 3
      unfold fcount
      rw [List.filter_cons_of_pos h, List.length_cons, List.drop_tail]
    · rw [if_neg h, if_neg h, loses_append a b raw, List.cons_append]
      congr 3
      unfold fcount
      rw [List.filter_cons_of_neg h]
theorem headD_drop (l : List Int) (k : Nat) : (l.drop k).headD 0 = l.getD k 0 := by
  rw [List.getD_eq_getElem?_getD, List.headD_eq_head?_getD, List.head?_drop]
theorem loses_step (l : List Pl.Sec) (raw : List Int) (i : Nat) (s : Pl.Sec) (hs : l[i]? = some s) :
    (Pl.loses (l.take i) raw ++ l.drop i)[i]? = some s ∧
    (s.fresh = true → (Pl.loses (l.take i) raw ++ l.drop i).set i (s.lose (Pl.three (raw.getD (fcount (l.take i)) 0))) = Pl.loses (l.take (i + 1)) raw ++ l.drop (i + 1) ∧ fcount (l.take (i + 1)) = fcount (l.take i) + 1) ∧
    (s.fresh = false → Pl.loses (l.take i) raw ++ l.drop i = Pl.loses (l.take (i + 1)) raw ++ l.drop (i + 1) ∧ fcount (l.take (i + 1)) = fcount (l.take i)) := by
  have hi : i < l.length := (List.getElem?_eq_some_iff.1 hs).1
  have he : l[i] = s := (List.getElem?_eq_some_iff.1 hs).2
  have hl : (Pl.loses (l.take i) raw).length = i := by rw [Pl.loses_length, List.length_take]; omega
  have ht : l.take (i + 1) = l.take i ++ [s] := by rw [List.take_succ_eq_append_getElem hi, he]
  have hd : l.drop i = s :: l.drop (i + 1) := by rw [List.drop_eq_getElem_cons hi, he]
  have hf : fcount (l.take (i + 1)) = fcount (l.take i) + (if s.fresh = true then 1 else 0) := by
    rw [ht]
    unfold fcount
    rw [List.filter_append, List.length_append]
    by_cases h : s.fresh = true
    · rw [List.filter_cons_of_pos h, if_pos h]; rfl
    · rw [List.filter_cons_of_neg h, if_neg h]; rfl
  refine ⟨?_, fun h => ⟨?_, by rw [hf, if_pos h]⟩, fun h => ⟨?_, by rw [hf, h]; rfl⟩⟩
  · rw [List.getElem?_append_right (by omega), hl, Nat.sub_self, hd]; rfl
  · rw [List.set_append_right _ _ (by omega), hl, Nat.sub_self, hd, List.set_cons_zero, ht, loses_append, List.append_assoc, Pl.loses, if_pos h, headD_drop]
    rfl
  · rw [hd, ht, loses_append, List.append_assoc, Pl.loses, if_neg (by rw [h]; simp)]
    rfl
theorem lose_sized (s : Pl.Sec) (c : Nat) (h : s.now.length = 256 ∧ s.safe.length = 256) : (s.lose c).now.length = 256 ∧ (s.lose c).safe.length = 256 := by
  unfold Pl.Sec.lose
  split
  · exact ⟨h.2, h.2⟩
  · split
    · exact ⟨h.1, h.1⟩
    · exact h

theorem three_lt (c : Int) : Pl.three c < 3 := by
  unfold Pl.three
  omega
theorem Src.only {F : Nat → Prop} {w w' : World} {A : Option Addr} {cs : List Value} (h : Src w A cs) (ho : Only F w w') (hA : ∀ p, A = some p → ¬ F p.block ∧ p.block < w.heap.size) : Src w' A cs := by
  rcases h with h | ⟨b, off, rfl, h⟩
  · exact .inl h
  · refine .inr ⟨b, off, rfl, fun j u hu => ?_⟩
    obtain ⟨h1, h2⟩ := hA _ rfl
    have hb := ho.block b h2 h1
    have := h j u hu
    unfold World.cell? at this ⊢
    dsimp only at this ⊢
    rw [hb]
    exact this

set_option maxHeartbeats 2000000 in
set_option maxRecDepth 100000 in
theorem crash_any (g : Nat) (v : Value) (d : Pl.Dk) (rd : Int) (A : Option Addr) (cap : Nat) (raw : List Int) (w : World) (h : DiskAt w g v d rd) (hr : Raw raw) (hl : raw.length ≤ 4096) (hsrc : Src w A (iv raw)) (hA : ∀ p, A = some p → ¬ dF g v p.block ∧ p.block < w.heap.size) :
    Calls Tryd.prog 49 #[.pointer (some ⟨g, 0, none⟩), .slice A raw.length cap] w fun e w' => e = .returned (.tuple #[]) ∧ DiskAt w' g v (d.crash raw) rd ∧ Only (dF g v) w w' := by
  have hmost := h.most
  have HH := Lib.hid h
  obtain ⟨n, hn⟩ : ∃ n, d.secs.length = n := ⟨_, rfl⟩
  rw [hn] at hmost
  have HN := Lib.hid hn
  obtain ⟨B, capB, rfl, _, _, _⟩ := own_src h.own
  have HSR := Lib.hid hsrc
  have HR := Lib.hid hr
  have HA := Lib.hid hA
  clear hn h hsrc hr hA
  go_enter Tryd.func49, Tryd.ntmps49
  go_wp2_with fail
  go_loopw [4, 5] (fun c i W => ∃ k : Nat, k ≤ n ∧ i = .int .i64 (k : Int) ∧ c = .int .i64 (fcount (d.secs.take k) : Nat) ∧ Hid (DiskAt W g (.slice B d.secs.length capB) ⟨Pl.loses (d.secs.take k) raw ++ d.secs.drop k, d.life⟩ rd) ∧ Hid (Only (dF g (.slice B d.secs.length capB)) w W)) (fun _ i _ => n - (intOf i).toNat)
  case atStart => exact ⟨0, Nat.zero_le _, rfl, rfl, HH.out, Only.refl _ _⟩
  case round =>
    obtain ⟨k, hk, rfl, rfl, HD, HO⟩ := hrel
    have hlk : (Pl.loses (d.secs.take k) raw ++ d.secs.drop k).length = n := by rw [List.length_append, Pl.loses_length, List.length_take, List.length_drop, HN.out]; omega
    have HLK := Lib.hid hlk
    clear hlk
    obtain ⟨wr', sy', hb'⟩ := HD.out.blk
    rw [HN.out] at hb'
    obtain ⟨e0, e1, e2, e3, e4, g0, g1, g2, g3, g4⟩ := facts5 hb'
    have HB' := Lib.hid hb'
    by_cases hkn : k < n
    · clear hb' e1 e2 e3 e4 g0 g1 g2 g3 g4
      obtain ⟨s, hs⟩ : ∃ s, d.secs[k]? = some s := ⟨_, List.getElem?_eq_getElem (by rw [HN.out]; exact hkn)⟩
      obtain ⟨hs1, hs2, hs3⟩ := loses_step d.secs raw k s hs
      obtain ⟨b, cap', hv, hbg, s0, s1, s2, s3, s4, sf⟩ := HD.out.sec hs1
      injection hv with hA1 hA2 hA3
      subst hA1
      subst hA3
      have hfc : fcount (d.secs.take k) ≤ 4096 := Nat.le_trans (fcount_le _) (by rw [List.length_take]; omega)
      have HS1 := Lib.hid hs1
      have HS2 := Lib.hid hs2
      have HS3 := Lib.hid hs3
      have hsz := Lib.hid (HH.out.sized s (List.mem_of_getElem? hs))
      have HDP := Lib.hid (dpick_any A cap (fcount (d.secs.take k)) raw wr (HSR.out.only HO.out HA.out) HR.out hfc hl)
      clear hs hs1 hs2 hs3 hA2
      cases hfr : s.fresh
      · rw [hfr] at s4
        obtain ⟨q1, q2⟩ := HS3.out hfr
        have Q1 := Lib.hid q1
        have Q2 := Lib.hid q2
        clear q1 q2 hfr
        go_wp2_with fail
        refine ⟨⟨k + 1, by omega, by go_num, by rw [Q2.out], ?_, HO.out⟩, by simp [intOf]; omega⟩
        rw [Hid, ← Q1.out]
        exact HD.out
      · rw [hfr] at s4
        obtain ⟨q1, q2⟩ := HS2.out hfr
        have Q1 := Lib.hid q1
        have Q2 := Lib.hid q2
        clear q1 q2 hfr
        go_wp2_with fail
        refine HDP.out.mono ?_
        rintro e w2 ⟨rfl, rfl⟩
        have hln : d.secs.length = (Pl.loses (d.secs.take k) raw ++ d.secs.drop k).length := by rw [HLK.out, HN.out]
        have HLN := Lib.hid hln
        have ht3 := three_lt (raw.getD (fcount (d.secs.take k)) 0)
        obtain ⟨c, hc⟩ : ∃ c, Pl.three (raw.getD (fcount (d.secs.take k)) 0) = c := ⟨_, rfl⟩
        rw [hc] at ht3
        have HC := Lib.hid hc
        rw [hc]
        clear hln hc
        obtain rfl | rfl | rfl : c = 0 ∨ c = 1 ∨ c = 2 := by omega
        · go_wp2_with fail
          have hln := HLN.out
          have HD3 := HD.out
          rw [hln] at HD3
          have he : [(0, Value.string (tstr s.safe)), (2, Value.bool s.was), (4, Value.bool false)].foldl (fun xs p => xs.set p.1 p.2) (secCells s) = secCells (s.lose 0) := by simp [Pl.Sec.lose, secCells]
          obtain ⟨r1, r2⟩ := DiskAt.sets (d := ⟨Pl.loses (d.secs.take k) raw ++ d.secs.drop k, d.life⟩) (i := k) (s := s) HD3 HS1.out (s.lose 0) (lose_sized s 0 hsz.out) _ (by simp) he
          rw [HC.out] at Q1
          refine ⟨⟨k + 1, by omega, by go_num, by rw [Q2.out]; go_num, ?_, HO.out.trans r2 (fun k _ hk => .inr (by rw [hk]; rfl))⟩, by simp [intOf]; omega⟩
          rw [Q1.out, ← hln] at r1
          exact r1
        · go_wp2_with fail
          have hln := HLN.out
          have HD3 := HD.out
          rw [hln] at HD3
          have he : [(1, Value.string (tstr s.now)), (3, Value.bool false), (4, Value.bool false)].foldl (fun xs p => xs.set p.1 p.2) (secCells s) = secCells (s.lose 1) := by simp [Pl.Sec.lose, secCells]
          obtain ⟨r1, r2⟩ := DiskAt.sets (d := ⟨Pl.loses (d.secs.take k) raw ++ d.secs.drop k, d.life⟩) (i := k) (s := s) HD3 HS1.out (s.lose 1) (lose_sized s 1 hsz.out) _ (by simp) he
          rw [HC.out] at Q1
          refine ⟨⟨k + 1, by omega, by go_num, by rw [Q2.out]; go_num, ?_, HO.out.trans r2 (fun k _ hk => .inr (by rw [hk]; rfl))⟩, by simp [intOf]; omega⟩
          rw [Q1.out, ← hln] at r1
          exact r1
        · go_wp2_with fail
          have hln := HLN.out
          have HD3 := HD.out
          rw [hln] at HD3
          have he : [(2, Value.bool true), (3, Value.bool true), (4, Value.bool false)].foldl (fun xs p => xs.set p.1 p.2) (secCells s) = secCells (s.lose 2) := by simp [Pl.Sec.lose, secCells]
          obtain ⟨r1, r2⟩ := DiskAt.sets (d := ⟨Pl.loses (d.secs.take k) raw ++ d.secs.drop k, d.life⟩) (i := k) (s := s) HD3 HS1.out (s.lose 2) (lose_sized s 2 hsz.out) _ (by simp) he
          rw [HC.out] at Q1
          refine ⟨⟨k + 1, by omega, by go_num, by rw [Q2.out]; go_num, ?_, HO.out.trans r2 (fun k _ hk => .inr (by rw [hk]; rfl))⟩, by simp [intOf]; omega⟩
          rw [Q1.out, ← hln] at r1
          exact r1
    · obtain rfl : k = n := by omega
      go_wp2_with fail
      go_end0
      have ho : Only (· = g) wr (wr.setCell ⟨g, 1, none⟩ (.int .i64 (-1))) := (Only.refl (· = g) wr).setCell (p := ⟨g, 1, none⟩) (.inl rfl) _
      have h1 := HD.out.ofHead ho (-1) rd wr' sy' ⟨by omega, by omega⟩ (by have := HB'.out.set_ 1 (.int .i64 (-1)); rw [← HN.out] at this; exact this)
      have h2 : Pl.loses (d.secs.take d.secs.length) raw ++ d.secs.drop d.secs.length = Pl.loses d.secs raw := by rw [List.take_length, List.drop_length, List.append_nil]
      refine ⟨rfl, ?_, HO.out.trans ho (fun x _ e => .inl e)⟩
      have h3 := h1
      dsimp only at h3
      rw [← HN.out, h2] at h3
      exact h3
end Go.Proofs.YtljmklohgpaopaaDoor
