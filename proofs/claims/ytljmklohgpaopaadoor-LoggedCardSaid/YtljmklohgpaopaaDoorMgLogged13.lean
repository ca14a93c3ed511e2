/- Plain: whatever is lost, a log has a beginning of what was appended, and all that was safe. No program in sight. -/
import Derived.Test.YtljmklohgpaopaaDoorMgLogged9
set_option linter.unusedVariables false
set_option linter.unusedSimpArgs false

namespace Go.Proofs.YtljmklohgpaopaaDoor
namespace Pl

structure Sec.Fine (s : Sec) : Prop where
  now : s.now.length = 256
  safe : s.safe.length = 256
  fresh : s.fresh = true → s.broken = false
  still : s.fresh = false → s.broken = s.was ∧ (s.was = false → s.safe = s.now)
def Sec.look (s : Sec) : Option (List UInt8) := if s.broken then none else some s.now
/-- What may be read behind a crash. -/
def Sec.may (s : Sec) (o : Option (List UInt8)) : Prop :=
  if s.fresh then o = some s.now ∨ o = none ∨ (s.was = false ∧ o = some s.safe) else o = s.look
theorem may_put {s : Sec} (h : s.Fine) (t : List UInt8) {o : Option (List UInt8)} (ho : (s.put t).may o) : o = some (t ++ zeros (256 - t.length)) ∨ o = none ∨ s.may o := by
  unfold Sec.may at ho
  rw [if_pos (show (s.put t).fresh = true from rfl)] at ho
  rcases ho with ho | ho | ⟨hw, ho⟩
  · exact .inl ho
  · exact .inr (.inl ho)
  · right; right
    unfold Sec.may
    by_cases hf : s.fresh = true
    · rw [if_pos hf]; exact .inr (.inr ⟨hw, ho⟩)
    · rw [if_neg hf]
      simp at hf
      obtain ⟨hb, hs⟩ := h.still hf
      have hw' : s.was = false := hw
      unfold Sec.look
      rw [hb, hw']
      simp
      rw [ho, ← hs hw']
      rfl
theorem may_flush {s : Sec} (h : s.Fine) {o : Option (List UInt8)} (ho : s.flush.may o) : o = s.look ∧ s.may o := by
  unfold Sec.flush at ho
  by_cases hf : s.fresh = true
  · rw [if_pos hf] at ho
    unfold Sec.may at ho
    rw [if_neg Bool.false_ne_true] at ho
    refine ⟨ho, ?_⟩
    unfold Sec.may
    rw [if_pos hf]
    left
    rw [ho]
    simp [Sec.look, h.fresh hf]
  · rw [if_neg hf] at ho
    refine ⟨?_, ho⟩
    unfold Sec.may at ho
    rw [if_neg hf] at ho
    exact ho
theorem fine_put {s : Sec} (h : s.Fine) (t : List UInt8) (ht : t.length ≤ 256) : (s.put t).Fine :=
  ⟨by simp [Sec.put, zeros]; omega, h.safe, fun _ => rfl, fun hf => by cases hf⟩
theorem fine_flush {s : Sec} (h : s.Fine) : s.flush.Fine := by
  unfold Sec.flush
  by_cases hf : s.fresh = true
  · rw [if_pos hf]
    exact ⟨h.now, h.now, (fun e => by cases e), fun _ => ⟨h.fresh hf, fun _ => rfl⟩⟩
  · rw [if_neg hf]; exact h
theorem fine_lose {s : Sec} (h : s.Fine) (hf : s.fresh = true) (c : Nat) : (s.lose c).Fine ∧ (s.lose c).fresh = false ∧ s.may (s.lose c).look := by
  unfold Sec.lose
  split
  · refine ⟨⟨h.safe, h.safe, (fun e => by cases e), fun _ => ⟨rfl, fun _ => rfl⟩⟩, rfl, ?_⟩
    unfold Sec.may Sec.look
    rw [if_pos hf]
    cases hw : s.was
    · exact .inr (.inr ⟨rfl, rfl⟩)
    · exact .inr (.inl rfl)
  · split
    · refine ⟨⟨h.now, h.now, (fun e => by cases e), fun _ => ⟨h.fresh hf, fun _ => rfl⟩⟩, rfl, ?_⟩
      unfold Sec.may Sec.look
      rw [if_pos hf]
      left
      simp [h.fresh hf]
    · refine ⟨⟨h.now, h.safe, (fun e => by cases e), fun _ => ⟨rfl, fun e => by cases e⟩⟩, rfl, ?_⟩
      unfold Sec.may Sec.look
      rw [if_pos hf]
      exact .inr (.inl rfl)

def Fines (l : List Sec) : Prop := ∀ s ∈ l, s.Fine
/-- What may be read of a sector behind a crash. -/
def May (l : List Sec) (i : Nat) (o : Option (List UInt8)) : Prop := ∃ s, l[i]? = some s ∧ s.may o
theorem fines_on {l : List Sec} (h : Fines l) (c : Ch) (hc : c.fits) : Fines (c.on l) := by
  intro x hx
  cases c with
  | wr i t =>
    obtain ⟨k, hk⟩ := List.getElem?_of_mem hx
    simp only [Ch.on, List.getElem?_modify] at hk
    cases hs : l[k]? with
    | none => rw [hs] at hk; cases hk
    | some y =>
      rw [hs] at hk
      by_cases hik : i = k
      · simp [hik] at hk
        subst hk
        exact fine_put (h y (List.mem_of_getElem? hs)) t hc
      · simp [hik] at hk
        subst hk
        exact h y (List.mem_of_getElem? hs)
  | sy =>
    obtain ⟨y, hy, rfl⟩ := List.mem_map.1 hx
    exact fine_flush (h y hy)
theorem may_wr {l : List Sec} (h : Fines l) (i : Nat) (t : List UInt8) {j : Nat} {o : Option (List UInt8)} (ho : May (Ch.on (.wr i t) l) j o) :
    (i = j ∧ (o = some (t ++ zeros (256 - t.length)) ∨ o = none)) ∨ May l j o := by
  obtain ⟨s, hs, hm⟩ := ho
  simp only [Ch.on, List.getElem?_modify] at hs
  cases hy : l[j]? with
  | none => rw [hy] at hs; cases hs
  | some y =>
    rw [hy] at hs
    by_cases hij : i = j
    · simp [hij] at hs
      subst hs
      rcases may_put (h y (List.mem_of_getElem? hy)) t hm with hm | hm | hm
      · exact .inl ⟨hij, .inl hm⟩
      · exact .inl ⟨hij, .inr hm⟩
      · exact .inr ⟨y, hy, hm⟩
    · simp [hij] at hs
      subst hs
      exact .inr ⟨y, hy, hm⟩
theorem may_sy {l : List Sec} (h : Fines l) (life : Int) {j : Nat} {o : Option (List UInt8)} (ho : May (Ch.on .sy l) j o) : o = (Dk.mk l life).look j ∧ May l j o := by
  obtain ⟨s, hs, hm⟩ := ho
  simp only [Ch.on, List.getElem?_map] at hs
  cases hy : l[j]? with
  | none => rw [hy] at hs; cases hs
  | some y =>
    rw [hy] at hs
    simp at hs
    subst hs
    obtain ⟨h1, h2⟩ := may_flush (h y (List.mem_of_getElem? hy)) hm
    refine ⟨?_, ⟨y, hy, h2⟩⟩
    unfold Dk.look
    rw [hy]
    exact h1
theorem may_still {l : List Sec} (hf : ∀ s ∈ l, s.fresh = false) (life : Int) {j : Nat} {o : Option (List UInt8)} (ho : May l j o) : o = (Dk.mk l life).look j := by
  obtain ⟨s, hs, hm⟩ := ho
  unfold Sec.may at hm
  rw [if_neg (by rw [hf s (List.mem_of_getElem? hs)]; decide)] at hm
  unfold Dk.look
  rw [hs]
  exact hm
theorem may_look {l : List Sec} (h : Fines l) (life : Int) {j : Nat} (hj : j < l.length) : May l j ((Dk.mk l life).look j) := by
  refine ⟨l[j], List.getElem?_eq_getElem hj, ?_⟩
  unfold Dk.look
  simp only [List.getElem?_eq_getElem hj]
  unfold Sec.may
  by_cases hf : (l[j]).fresh = true
  · rw [if_pos hf]
    left
    simp [(h _ (List.getElem_mem hj)).fresh hf]
  · rw [if_neg hf]; rfl
theorem loses_length (l : List Sec) : ∀ raw, (loses l raw).length = l.length := by
  induction l with
  | nil => intro raw; rfl
  | cons s l ih => intro raw; unfold loses; split <;> simp [ih]
theorem loses_at (l : List Sec) (h : Fines l) : ∀ (raw : List Int) (j : Nat) (s' : Sec), (loses l raw)[j]? = some s' → ∃ s, l[j]? = some s ∧ s'.Fine ∧ s'.fresh = false ∧ s.may s'.look := by
  induction l with
  | nil => intro raw j s' hs; simp [loses] at hs
  | cons x l ih =>
    intro raw j s' hs
    have hx := h x (by simp)
    have hl : Fines l := fun s hs => h s (by simp [hs])
    unfold loses at hs
    by_cases hf : x.fresh = true
    · rw [if_pos hf] at hs
      match j with
      | 0 =>
        simp at hs
        subst hs
        obtain ⟨h1, h2, h3⟩ := fine_lose hx hf (three (raw.headD 0))
        exact ⟨x, rfl, by simpa using h1, by simpa using h2, by simpa using h3⟩
      | j + 1 => exact ih hl raw.tail j s' (by simpa using hs)
    · rw [if_neg hf] at hs
      match j with
      | 0 =>
        simp at hs
        subst hs
        simp at hf
        exact ⟨x, rfl, hx, hf, by unfold Sec.may; rw [hf]; simp⟩
      | j + 1 => exact ih hl raw j s' (by simpa using hs)
theorem crash_fines {l : List Sec} (h : Fines l) (raw : List Int) : Fines (loses l raw) ∧ (∀ s ∈ loses l raw, s.fresh = false) ∧ ∀ j o, May (loses l raw) j o → May l j o := by
  refine ⟨fun s hs => ?_, fun s hs => ?_, fun j o ho => ?_⟩
  · obtain ⟨k, hk⟩ := List.getElem?_of_mem hs
    obtain ⟨_, _, h1, _, _⟩ := loses_at l h raw k s hk
    exact h1
  · obtain ⟨k, hk⟩ := List.getElem?_of_mem hs
    obtain ⟨_, _, _, h1, _⟩ := loses_at l h raw k s hk
    exact h1
  · obtain ⟨s', hs', hm⟩ := ho
    obtain ⟨s, hs, _, hf, hmay⟩ := loses_at l h raw j s' hs'
    unfold Sec.may at hm
    rw [if_neg (by rw [hf]; decide)] at hm
    subst hm
    exact ⟨s, hs, hmay⟩

/-- No piece of this epoch. -/
def NotOwn (e : Nat) (o : Option (List UInt8)) : Prop := ∀ s, o = some s → ownOf e s = false
theorem notOwn_none (e : Nat) : NotOwn e none := fun _ h => by cases h
theorem notOwn_zeros (e : Nat) : NotOwn e (some ([] ++ zeros (256 - ([] : List UInt8).length))) := by
  intro s h
  cases h
  rfl
def piece (e i : Nat) (x : Bool × List UInt8) : Option (List UInt8) := some (pieceText e i x.1 x.2 ++ zeros (256 - (pieceText e i x.1 x.2).length))
/-- No piece of a later epoch. -/
def Old (e : Nat) (o : Option (List UInt8)) : Prop := ∀ s, o = some s → s.headD 0 = 76 → num ((s.drop 1).take 8) ≤ e
theorem Old.next {e : Nat} {o : Option (List UInt8)} (h : Old e o) : NotOwn (e + 1) o := by
  intro s hs
  unfold ownOf
  rw [Bool.and_eq_false_iff]
  by_cases hh : s.headD 0 = 76
  · have := h s hs hh
    exact .inr (by simpa using (show num ((s.drop 1).take 8) ≠ e + 1 by omega))
  · exact .inl (by simpa using hh)
theorem Old.mono {e e' : Nat} {o : Option (List UInt8)} (h : Old e o) (he : e ≤ e') : Old e' o := fun s hs hh => Nat.le_trans (h s hs hh) he
theorem old_none (e : Nat) : Old e none := fun _ h => by cases h
theorem old_zeros (e : Nat) : Old e (some ([] ++ zeros (256 - ([] : List UInt8).length))) := by
  intro s h hh
  cases h
  rw [List.nil_append, show 256 - ([] : List UInt8).length = 256 from rfl, head_zeros] at hh
  cases hh
theorem old_piece (e i : Nat) (x : Bool × List UInt8) (he : e < 256 ^ 8) (hi : i < 256 ^ 4) (hx : x.2.length ≤ 240) : Old e (piece e i x) := by
  intro s hs _
  cases hs
  have := (piece_parts e i x.1 x.2 (zeros (256 - (pieceText e i x.1 x.2).length)) he hi hx).1
  unfold ownOf at this
  simp only [Bool.and_eq_true, beq_iff_eq] at this
  exact Nat.le_of_eq this.2

/-- A log's sectors, as a crash may leave them: these pieces, of which so many are safe; r: a Reset may be under way. -/
structure Held (d : Dk) (first data e : Nat) (ps : List (Bool × List UInt8)) (ns : Nat) (r : Bool) : Prop where
  fine : Fines d.secs
  room : first + 2 + data ≤ d.secs.length
  most : data < 4294967296
  ep : 1 ≤ e ∧ e + 1 < 256 ^ 8
  slotE : ∀ o, May d.secs (first + e % 2) o → slotOf o = e
  slotO : ∀ o, May d.secs (first + (e + 1) % 2) o → slotOf o ≤ e ∨ (r = true ∧ slotOf o = e + 1)
  fit : ps.length ≤ data
  small : ∀ x ∈ ps, x.2.length ≤ 240
  keep : ∀ i x o, i < ns → ps[i]? = some x → May d.secs (first + 2 + i) o → o = piece e i x
  laid : ∀ i x o, ps[i]? = some x → May d.secs (first + 2 + i) o → o = piece e i x ∨ NotOwn e o
  rest : ∀ i o, ps.length ≤ i → i < data → May d.secs (first + 2 + i) o → NotOwn e o
  old : ∀ i o, i < data → May d.secs (first + 2 + i) o → Old e o
  now : ∀ i x, ps[i]? = some x → d.look (first + 2 + i) = piece e i x
theorem Held.tick {d : Dk} {first data e ns : Nat} {ps : List (Bool × List UInt8)} {r : Bool} (h : Held d first data e ps ns r) (life : Int) : Held ⟨d.secs, life⟩ first data e ps ns r :=
  ⟨h.fine, h.room, h.most, h.ep, h.slotE, h.slotO, h.fit, h.small, h.keep, h.laid, h.rest, h.old, h.now⟩
theorem Held.resets {d : Dk} {first data e ns : Nat} {ps : List (Bool × List UInt8)} {r : Bool} (h : Held d first data e ps ns r) : Held d first data e ps ns true :=
  ⟨h.fine, h.room, h.most, h.ep, h.slotE, fun o ho => (h.slotO o ho).imp id (fun x => ⟨rfl, x.2⟩), h.fit, h.small, h.keep, h.laid, h.rest, h.old, h.now⟩
/-- One piece more is written. -/
theorem Held.lays {d : Dk} {first data e ns : Nat} {ps : List (Bool × List UInt8)} {r : Bool} (h : Held d first data e ps ns r) (hns : ns ≤ ps.length) (x : Bool × List UInt8) (hx : x.2.length ≤ 240) (hd : ps.length < data) :
    Held ⟨Ch.on (.wr (first + 2 + ps.length) (pieceText e ps.length x.1 x.2)) d.secs, d.life⟩ first data e (ps ++ [x]) ns r := by
  have hm := h.most
  have hep := h.ep
  have hw : ∀ {j : Nat} {o : Option (List UInt8)}, May (Ch.on (.wr (first + 2 + ps.length) (pieceText e ps.length x.1 x.2)) d.secs) j o → (first + 2 + ps.length = j ∧ (o = piece e ps.length x ∨ o = none)) ∨ May d.secs j o := fun ho => may_wr h.fine _ _ ho
  have hlen : (ps ++ [x]).length = ps.length + 1 := by simp
  have hget : ∀ {i : Nat} {y : Bool × List UInt8}, (ps ++ [x])[i]? = some y → (i = ps.length ∧ y = x) ∨ ps[i]? = some y := by
    intro i y hi
    by_cases hlt : i < ps.length
    · rw [List.getElem?_append_left hlt] at hi; exact .inr hi
    · have : i < (ps ++ [x]).length := (List.getElem?_eq_some_iff.1 hi).1
      rw [hlen] at this
      obtain rfl : i = ps.length := by omega
      simp at hi
      exact .inl ⟨rfl, hi.symm⟩
  refine ⟨fines_on h.fine (.wr _ (pieceText e ps.length x.1 x.2)) (by show (pieceText _ _ _ _).length ≤ 256; rw [piece_length]; omega), ?_, h.most, h.ep, ?_, ?_, by omega, ?_, ?_, ?_, ?_, ?_, ?_⟩
  · simp only [on_length]; exact h.room
  · intro o ho
    rcases hw ho with ⟨h1, _⟩ | ho
    · omega
    · exact h.slotE o ho
  · intro o ho
    rcases hw ho with ⟨h1, _⟩ | ho
    · omega
    · exact h.slotO o ho
  · intro y hy
    rcases List.mem_append.1 hy with hy | hy
    · exact h.small y hy
    · simp at hy; subst hy; exact hx
  · intro i y o hi hg ho
    rcases hget hg with ⟨rfl, rfl⟩ | hg
    · omega
    · rcases hw ho with ⟨h1, _⟩ | ho
      · have := (List.getElem?_eq_some_iff.1 hg).1
        omega
      · exact h.keep i y o hi hg ho
  · intro i y o hg ho
    rcases hget hg with ⟨rfl, rfl⟩ | hg
    · rcases hw ho with ⟨_, h2 | h2⟩ | ho
      · exact .inl h2
      · exact .inr (by rw [h2]; exact notOwn_none e)
      · exact .inr (h.rest _ o (Nat.le_refl _) hd ho)
    · rcases hw ho with ⟨h1, _⟩ | ho
      · have := (List.getElem?_eq_some_iff.1 hg).1
        omega
      · exact h.laid i y o hg ho
  · intro i o hi hd' ho
    rw [hlen] at hi
    rcases hw ho with ⟨h1, _⟩ | ho
    · omega
    · exact h.rest i o (by omega) hd' ho
  · intro i o hd' ho
    rcases hw ho with ⟨h1, h2 | h2⟩ | ho
    · rw [h2]; exact old_piece e _ x (by omega) (by omega) hx
    · rw [h2]; exact old_none e
    · exact h.old i o hd' ho
  · intro i y hg
    rw [look_wr _ _ _ _ _ (by have := h.room; omega)]
    rcases hget hg with ⟨rfl, rfl⟩ | hg
    · rw [if_pos rfl]; rfl
    · have := (List.getElem?_eq_some_iff.1 hg).1
      rw [if_neg (by omega)]
      exact h.now i y hg
/-- All is safe. -/
theorem Held.syncs {d : Dk} {first data e ns : Nat} {ps : List (Bool × List UInt8)} {r : Bool} (h : Held d first data e ps ns r) : Held ⟨Ch.on .sy d.secs, d.life⟩ first data e ps ps.length r := by
  have hw : ∀ {j : Nat} {o : Option (List UInt8)}, May (Ch.on .sy d.secs) j o → o = d.look j ∧ May d.secs j o := fun ho => may_sy h.fine d.life ho
  exact ⟨fines_on h.fine .sy trivial, by simp only [on_length]; exact h.room, h.most, h.ep, fun o ho => h.slotE o (hw ho).2, fun o ho => h.slotO o (hw ho).2, h.fit, h.small,
    fun i x o _ hg ho => (hw ho).1.trans (h.now i x hg), fun i x o hg ho => .inl ((hw ho).1.trans (h.now i x hg)), fun i o hi hd ho => h.rest i o hi hd (hw ho).2, fun i o hd ho => h.old i o hd (hw ho).2,
    fun i x hg => by rw [look_sy]; exact h.now i x hg⟩
/-- The slot of the next epoch is written. -/
theorem Held.slots {d : Dk} {first data e ns : Nat} {ps : List (Bool × List UInt8)} {r : Bool} (h : Held d first data e ps ns r) : Held ⟨Ch.on (.wr (first + (e + 1) % 2) (slotText (e + 1))) d.secs, d.life⟩ first data e ps ns true := by
  have hep := h.ep
  have hw : ∀ {j : Nat} {o : Option (List UInt8)}, May (Ch.on (.wr (first + (e + 1) % 2) (slotText (e + 1))) d.secs) j o → (first + (e + 1) % 2 = j ∧ (o = some (slotText (e + 1) ++ zeros (256 - (slotText (e + 1)).length)) ∨ o = none)) ∨ May d.secs j o := fun ho => may_wr h.fine _ _ ho
  have far : ∀ {i : Nat} {o : Option (List UInt8)}, May (Ch.on (.wr (first + (e + 1) % 2) (slotText (e + 1))) d.secs) (first + 2 + i) o → May d.secs (first + 2 + i) o := by
    intro i o ho
    rcases hw ho with ⟨h1, _⟩ | ho
    · omega
    · exact ho
  refine ⟨fines_on h.fine (.wr _ (slotText (e + 1))) (by simp [Ch.fits, slotText, be_length]), by simp only [on_length]; exact h.room, h.most, h.ep, ?_, ?_, h.fit, h.small, fun i x o hi hg ho => h.keep i x o hi hg (far ho), fun i x o hg ho => h.laid i x o hg (far ho),
    fun i o hi hd ho => h.rest i o hi hd (far ho), fun i o hd ho => h.old i o hd (far ho), ?_⟩
  · intro o ho
    rcases hw ho with ⟨h1, _⟩ | ho
    · omega
    · exact h.slotE o ho
  · intro o ho
    rcases hw ho with ⟨_, h2 | h2⟩ | ho
    · rw [h2, slotOf_slot _ _ hep.2]; exact .inr ⟨rfl, rfl⟩
    · rw [h2]; exact .inl (Nat.zero_le _)
    · exact (h.slotO o ho).imp id (fun x => ⟨rfl, x.2⟩)
  · intro i x hg
    rw [look_wr _ _ _ _ _ (by have := h.room; omega), if_neg (by omega)]
    exact h.now i x hg
theorem Held.emptied {d : Dk} {first data e ns : Nat} {ps : List (Bool × List UInt8)} {r : Bool} (h : Held d first data e ps ns r) (he : e + 2 < 256 ^ 8) :
    Held ⟨Ch.on .sy (Ch.on (.wr (first + (e + 1) % 2) (slotText (e + 1))) d.secs), d.life⟩ first data (e + 1) [] 0 false := by
  have h1 := h.slots.syncs
  have hf := h.slots.fine
  refine ⟨h1.fine, h1.room, h1.most, ⟨by omega, by omega⟩, ?_, ?_, Nat.zero_le _, by simp, ?_, by simp, ?_, ?_, by simp⟩
  · intro o ho
    rw [(may_sy hf d.life ho).1, look_wr _ _ _ _ _ (by have := h.room; omega), if_pos rfl, slotOf_slot _ _ (by omega)]
  · intro o ho
    left
    rw [show (e + 1 + 1) % 2 = e % 2 by omega] at ho
    rw [h1.slotE o ho]
    omega
  · intro i x o hi; omega
  · intro i o _ hd ho; exact (h1.old i o hd ho).next
  · intro i o hd ho; exact (h1.old i o hd ho).mono (by omega)

/-- Behind a crash: the payloads that are there; up to 'stop' nothing that ends one lies behind them. -/
structure Dirty (d : Dk) (first data e : Nat) (all : List (List UInt8)) (stop : Nat) : Prop where
  fine : Fines d.secs
  room : first + 2 + data ≤ d.secs.length
  most : data < 4294967296
  ep : 1 ≤ e ∧ e < 256 ^ 8
  slotE : ∀ o, May d.secs (first + e % 2) o → slotOf o = e
  slotO : ∀ o, May d.secs (first + (e + 1) % 2) o → slotOf o ≤ e
  small : ∀ p ∈ all, 1 ≤ p.length ∧ p.length ≤ 2000
  fit : (flat all).length ≤ stop ∧ stop ≤ data
  laid : ∀ i x o, (flat all)[i]? = some x → May d.secs (first + 2 + i) o → o = piece e i x
  gap : ∀ i o, (flat all).length ≤ i → i < stop → May d.secs (first + 2 + i) o → NotOwn e o ∨ ∃ c : List UInt8, c.length ≤ 240 ∧ o = piece e i (true, c)
  stops : ∀ o, stop < data → May d.secs (first + 2 + stop) o → NotOwn e o
  old : ∀ i o, i < data → May d.secs (first + 2 + i) o → Old e o

theorem scan_gap (e : Nat) (he : e < 256 ^ 8) (all : List (List UInt8)) (nx : Nat) : ∀ (l : List (Option (List UInt8))) (i : Nat) (b : List UInt8) (k : Nat), i + k < 256 ^ 4 →
    (∀ j o, j < k → l[j]? = some o → NotOwn e o ∨ ∃ c : List UInt8, c.length ≤ 240 ∧ o = piece e (i + j) (true, c)) → (∀ o, l[k]? = some o → NotOwn e o) → scan e l i b all nx = (all, nx) := by
  intro l
  induction l with
  | nil => intros; rfl
  | cons o r ih =>
    intro i b k hk hg hs
    have stop : NotOwn e o → scan e (o :: r) i b all nx = (all, nx) := by
      intro ho
      refine scan_stop e _ i b all nx (fun s hs => ?_)
      simp at hs
      exact ho s hs
    match k with
    | 0 => exact stop (hs o rfl)
    | k + 1 =>
      rcases hg 0 o (by omega) rfl with ho | ⟨c, hc, rfl⟩
      · exact stop ho
      · simp only [Nat.add_zero, piece]
        obtain ⟨h1, h2, h3, h4, h5⟩ := piece_parts e i true c (zeros (256 - (pieceText e i true c).length)) he (by omega) hc
        rw [scan]
        split
        · rw [if_neg (by rw [h4]; decide)]
          refine ih (i + 1) _ k (by omega) (fun j o hj ho => ?_) (fun o ho => hs o (by simpa using ho))
          have := hg (j + 1) o (by omega) (by simpa using ho)
          rwa [show i + (j + 1) = i + 1 + j by omega] at this
        · rfl

theorem Dirty.look {d : Dk} {first data e stop : Nat} {all : List (List UInt8)} (h : Dirty d first data e all stop) {j : Nat} (hj : j < d.secs.length) : May d.secs j (d.look j) := may_look h.fine d.life hj
theorem Dirty.scans {d : Dk} {first data e stop : Nat} {all : List (List UInt8)} (h : Dirty d first data e all stop) : scan e ((List.range data).map (fun i => d.look (first + 2 + i))) 0 [] [] 0 = (all, (flat all).length) := by
  have hfit := h.fit
  have hroom := h.room
  have hmost := h.most
  rw [map_split _ (flat all).length data (by omega)]
  have h1 : (List.range (flat all).length).map (fun i => d.look (first + 2 + i)) = texts e 0 (flat all) := by
    apply List.ext_getElem?
    intro i
    by_cases hi : i < (flat all).length
    · rcases hp : (flat all)[i] with ⟨m, c⟩
      have hg : (flat all)[i]? = some (m, c) := by rw [List.getElem?_eq_getElem hi, hp]
      rw [texts_get _ _ 0 i m c hg, List.getElem?_map, List.getElem?_range hi]
      simp only [Option.map_some, Nat.zero_add]
      rw [h.laid i (m, c) _ hg (h.look (by omega))]
      rfl
    · rw [List.getElem?_eq_none (by simp; omega), List.getElem?_eq_none (by rw [texts_length]; omega)]
  rw [h1, scan_all e h.ep.2 _ all 0 [] (by omega) (fun p hp => (h.small p hp).2), List.nil_append, Nat.zero_add]
  refine scan_gap e h.ep.2 _ _ _ _ _ (stop - (flat all).length) (by omega) (fun j o hj ho => ?_) (fun o ho => ?_)
  · rw [List.getElem?_map, List.getElem?_range (by omega)] at ho
    simp at ho
    subst ho
    exact h.gap _ _ (by omega) (by omega) (h.look (by omega))
  · rw [List.getElem?_map] at ho
    by_cases hz : stop - (flat all).length < data - (flat all).length
    · rw [List.getElem?_range hz] at ho
      simp at ho
      subst ho
      rw [show (flat all).length + (stop - (flat all).length) = stop by omega]
      exact h.stops _ (by omega) (h.look (by omega))
    · rw [List.getElem?_eq_none (by simp; omega)] at ho
      cases ho
theorem Dirty.epoch {d : Dk} {first data e stop : Nat} {all : List (List UInt8)} (h : Dirty d first data e all stop) : max (slotOf (d.look first)) (slotOf (d.look (first + 1))) = e := by
  have hroom := h.room
  have h1 := h.slotE _ (h.look (by omega))
  have h2 := h.slotO _ (h.look (by omega))
  by_cases hp : e % 2 = 0
  · rw [hp] at h1
    rw [show (e + 1) % 2 = 1 by omega] at h2
    rw [Nat.add_zero] at h1
    omega
  · rw [show e % 2 = 1 by omega] at h1
    rw [show (e + 1) % 2 = 0 by omega, Nat.add_zero] at h2
    omega
theorem Dirty.tick {d : Dk} {first data e stop : Nat} {all : List (List UInt8)} (h : Dirty d first data e all stop) (life : Int) : Dirty ⟨d.secs, life⟩ first data e all stop :=
  ⟨h.fine, h.room, h.most, h.ep, h.slotE, h.slotO, h.small, h.fit, h.laid, h.gap, h.stops, h.old⟩
theorem Dirty.crash {d : Dk} {first data e stop : Nat} {all : List (List UInt8)} (h : Dirty d first data e all stop) (raw : List Int) : Dirty (d.crash raw) first data e all stop := by
  obtain ⟨h1, _, h3⟩ := crash_fines h.fine raw
  exact ⟨h1, by show _ ≤ (loses d.secs raw).length; rw [loses_length]; exact h.room, h.most, h.ep, fun o ho => h.slotE o (h3 _ _ ho), fun o ho => h.slotO o (h3 _ _ ho), h.small, h.fit, fun i x o hg ho => h.laid i x o hg (h3 _ _ ho),
    fun i o hi hs ho => h.gap i o hi hs (h3 _ _ ho), fun o hs ho => h.stops o hs (h3 _ _ ho), fun i o hi ho => h.old i o hi (h3 _ _ ho)⟩
theorem Dirty.sync {d : Dk} {first data e stop : Nat} {all : List (List UInt8)} (h : Dirty d first data e all stop) : Dirty ⟨Ch.on .sy d.secs, d.life⟩ first data e all stop := by
  have hw : ∀ {j : Nat} {o : Option (List UInt8)}, May (Ch.on .sy d.secs) j o → May d.secs j o := fun ho => (may_sy h.fine d.life ho).2
  exact ⟨fines_on h.fine .sy trivial, by simp only [on_length]; exact h.room, h.most, h.ep, fun o ho => h.slotE o (hw ho), fun o ho => h.slotO o (hw ho), h.small, h.fit, fun i x o hg ho => h.laid i x o hg (hw ho),
    fun i o hi hs ho => h.gap i o hi hs (hw ho), fun o hs ho => h.stops o hs (hw ho), fun i o hi ho => h.old i o hi (hw ho)⟩
theorem Dirty.wipes {d : Dk} {first data e stop : Nat} {all : List (List UInt8)} (h : Dirty d first data e all stop) (k : Nat) (hk : (flat all).length ≤ k) (hd : k < data) : Dirty ⟨Ch.on (.wr (first + 2 + k) []) d.secs, d.life⟩ first data e all stop := by
  have hw : ∀ {j : Nat} {o : Option (List UInt8)}, May (Ch.on (.wr (first + 2 + k) []) d.secs) j o → (first + 2 + k = j ∧ NotOwn e o ∧ Old e o) ∨ May d.secs j o := by
    intro j o ho
    rcases may_wr h.fine _ _ ho with ⟨h1, h2 | h2⟩ | ho
    · exact .inl ⟨h1, by rw [h2]; exact notOwn_zeros e, by rw [h2]; exact old_zeros e⟩
    · exact .inl ⟨h1, by rw [h2]; exact notOwn_none e, by rw [h2]; exact old_none e⟩
    · exact .inr ho
  refine ⟨fines_on h.fine (.wr _ []) (by simp [Ch.fits]), by simp only [on_length]; exact h.room, h.most, h.ep, ?_, ?_, h.small, h.fit, ?_, ?_, ?_, ?_⟩
  · intro o ho
    rcases hw ho with ⟨h1, _⟩ | ho
    · omega
    · exact h.slotE o ho
  · intro o ho
    rcases hw ho with ⟨h1, _⟩ | ho
    · omega
    · exact h.slotO o ho
  · intro i x o hg ho
    have := (List.getElem?_eq_some_iff.1 hg).1
    rcases hw ho with ⟨h1, _⟩ | ho
    · omega
    · exact h.laid i x o hg ho
  · intro i o hi hs ho
    rcases hw ho with ⟨_, h2, _⟩ | ho
    · exact .inl h2
    · exact h.gap i o hi hs ho
  · intro o hs ho
    rcases hw ho with ⟨_, h2, _⟩ | ho
    · exact h2
    · exact h.stops o hs ho
  · intro i o hi ho
    rcases hw ho with ⟨_, _, h2⟩ | ho
    · exact h2
    · exact h.old i o hi ho
/-- A change that does not spoil what is there. -/
def Ch.gentle (first data next : Nat) : Ch → Prop
  | .wr i t => t = [] ∧ ∃ k, i = first + 2 + k ∧ next ≤ k ∧ k < data
  | .sy => True
theorem Dirty.change {d : Dk} {first data e stop : Nat} {all : List (List UInt8)} (h : Dirty d first data e all stop) (c : Ch) (hc : c.gentle first data (flat all).length) : Dirty (d.change c) first data e all stop := by
  unfold Dk.change
  split
  · cases c with
    | wr i t =>
      obtain ⟨rfl, k, rfl, h1, h2⟩ := hc
      exact (h.wipes k h1 h2).tick _
    | sy => exact h.sync.tick _
  · exact h.tick _
theorem Dirty.runs {l : List Ch} : ∀ {d : Dk} {first data e stop : Nat} {all : List (List UInt8)}, Dirty d first data e all stop → (∀ c ∈ l, c.gentle first data (flat all).length) → Dirty (d.run l).1 first data e all stop := by
  induction l with
  | nil => intro d first data e stop all h _; exact h
  | cons c r ih =>
    intro d first data e stop all h hc
    rw [Dk.run_cons]
    split
    · exact ih (h.change c (hc c (by simp))) (fun x hx => hc x (by simp [hx]))
    · exact h.change c (hc c (by simp))
theorem stale_gentle (d : Dk) (e first next data : Nat) : ∀ c ∈ cleaned (stale d e first next data), c.gentle first data next := by
  intro c hc
  unfold cleaned at hc
  split at hc
  · simp at hc
  · rcases List.mem_append.1 hc with hc | hc
    · obtain ⟨i, hi, rfl⟩ := List.mem_map.1 hc
      obtain ⟨h1, h2⟩ := List.mem_filter.1 hi
      simp at h1 h2
      exact ⟨rfl, i, rfl, h2.1, h1⟩
    · simp at hc
      subst hc
      trivial

theorem run_true {l : List Ch} : ∀ {d : Dk}, (d.run l).2 = true → (d.run l).1.secs = l.foldl (fun s c => c.on s) d.secs := by
  induction l with
  | nil => intro d _; rfl
  | cons c r ih =>
    intro d h
    rw [Dk.run_cons] at h ⊢
    by_cases ha : d.alive = true
    · rw [if_pos ha] at h ⊢
      rw [ih h, List.foldl_cons]
      unfold Dk.change
      rw [if_pos ha]
    · rw [if_neg ha] at h; cases h
theorem fold_wipes (life : Int) (at_ : Nat) (ks : List Nat) : ∀ (s : List Sec), (∀ k ∈ ks, at_ + k < s.length) → ∀ j,
    (Dk.mk ((ks.map (fun k => Ch.wr (at_ + k) [])).foldl (fun s c => c.on s) s) life).look j = if ∃ k ∈ ks, at_ + k = j then some (zeros 256) else (Dk.mk s life).look j := by
  induction ks with
  | nil => intro s _ j; simp
  | cons k r ih =>
    intro s hs j
    rw [List.map_cons, List.foldl_cons, ih _ (fun x hx => by rw [on_length]; exact hs x (by simp [hx])) j, look_wr _ _ _ _ _ (hs k (by simp))]
    by_cases h1 : ∃ x ∈ r, at_ + x = j
    · rw [if_pos h1, if_pos (by obtain ⟨x, hx, he⟩ := h1; exact ⟨x, by simp [hx], he⟩)]
    · rw [if_neg h1]
      by_cases h2 : at_ + k = j
      · rw [if_pos h2, if_pos ⟨k, by simp, h2⟩]; rfl
      · rw [if_neg h2, if_neg]
        rintro ⟨x, hx, he⟩
        rcases List.mem_cons.1 hx with rfl | hx
        · exact h2 he
        · exact h1 ⟨x, hx, he⟩
/-- What is opened behind a crash. -/
theorem Dirty.opens {d : Dk} {first data e stop : Nat} {all : List (List UInt8)} (h : Dirty d first data e all stop) (hs : ∀ s ∈ d.secs, s.fresh = false) (he : e + 1 < 256 ^ 8) :
    ∃ d', Dirty d' first data e all stop ∧ ((openLog d first (data + 2) = (d', .inl 3) ∧ ¬ d.life < 0) ∨
      (openLog d first (data + 2) = (d', .inr ⟨first, data, e, (flat all).length, all, false⟩) ∧ Held d' first data e (flat all) (flat all).length false)) := by
  have hep := h.ep
  unfold openLog
  by_cases hl : d.life = 0
  · exact ⟨d, h, .inl ⟨by rw [if_pos hl], by omega⟩⟩
  · rw [if_neg hl]
    simp only [h.epoch, Nat.add_sub_cancel]
    rw [if_neg (by omega), h.scans]
    simp only
    obtain ⟨ops, hops⟩ : ∃ ops, cleaned (stale d e first (flat all).length data) = ops := ⟨_, rfl⟩
    have hrun := h.runs (l := ops) (by rw [← hops]; exact stale_gentle d e first _ data)
    rw [hops]
    rcases hr : d.run ops with ⟨d', b⟩
    rw [hr] at hrun
    refine ⟨d', hrun, ?_⟩
    cases b with
    | false =>
      refine .inl ⟨rfl, fun hlt => ?_⟩
      rw [run_of hlt] at hr
      simp at hr
    | true =>
      refine .inr ⟨rfl, ?_⟩
      have hsec := run_true (d := d) (l := ops) (by rw [hr])
      rw [hr] at hsec
      have hroom := h.room
      have hfit := h.fit
      have hlook : ∀ {j : Nat} {o : Option (List UInt8)}, May d.secs j o → o = d.look j := fun ho => may_still hs d.life ho
      -- what is read now, and behind a crash
      have key : ∀ {j : Nat} {o : Option (List UInt8)}, May d'.secs j o → o = d'.look j := by
        intro j o ho
        rw [hsec] at ho
        by_cases hst : stale d e first (flat all).length data = []
        · rw [← hops, hst] at ho
          have hk := hlook ho
          have hd' : d'.look j = d.look j := by
            unfold Dk.look
            rw [hsec, ← hops, hst]
            rfl
          rw [hd', hk]
        · have hop : ops = stale d e first (flat all).length data ++ [.sy] := by
            rw [← hops]
            unfold cleaned
            rw [if_neg (by simpa using hst)]
          have hsy : d'.secs = Ch.on .sy ((stale d e first (flat all).length data).foldl (fun s c => c.on s) d.secs) := by rw [hsec, hop, List.foldl_append]; rfl
          rw [← hsec, hsy] at ho
          have hfold : Fines ((stale d e first (flat all).length data).foldl (fun s c => c.on s) d.secs) := by
            have : ∀ (l : List Ch) (s : List Sec), Fines s → (∀ c ∈ l, c.fits) → Fines (l.foldl (fun s c => c.on s) s) := by
              intro l
              induction l with
              | nil => intro s h _; exact h
              | cons c r ih => intro s h hc; exact ih _ (fines_on h c (hc c (by simp))) (fun x hx => hc x (by simp [hx]))
            refine this _ _ h.fine (fun c hc => ?_)
            obtain ⟨i, _, rfl⟩ := List.mem_map.1 hc
            simp [Ch.fits]
          have h2 := (may_sy hfold d'.life ho).1
          rw [h2, ← look_sy, ← hsy]
      have rest : ∀ i, (flat all).length ≤ i → i < data → NotOwn e (d'.look (first + 2 + i)) := by
        intro i hi hd
        have hlk : ∀ j, d'.look j = (Dk.mk ((stale d e first (flat all).length data).foldl (fun s c => c.on s) d.secs) d'.life).look j := by
          intro j
          by_cases hst : stale d e first (flat all).length data = []
          · unfold Dk.look
            rw [hsec, ← hops, hst]
            rfl
          · have hop : ops = stale d e first (flat all).length data ++ [.sy] := by
              rw [← hops]
              unfold cleaned
              rw [if_neg (by simpa using hst)]
            have hsy : d'.secs = Ch.on .sy ((stale d e first (flat all).length data).foldl (fun s c => c.on s) d.secs) := by rw [hsec, hop, List.foldl_append]; rfl
            have hls := look_sy ((stale d e first (flat all).length data).foldl (fun s c => c.on s) d.secs) d'.life j
            rw [← hls, ← hsy]
        rw [hlk]
        unfold stale
        rw [fold_wipes _ (first + 2) _ _ (fun k hk => by have := List.mem_range.1 (List.mem_filter.1 hk).1; omega)]
        split
        · exact notOwn_zeros e
        · rename_i hn
          intro s hs'
          cases ho : ownOf e s with
          | false => rfl
          | true =>
            exfalso
            refine hn ⟨i, List.mem_filter.2 ⟨List.mem_range.2 hd, ?_⟩, rfl⟩
            have hs2 : d.look (first + 2 + i) = some s := hs'
            simp [hi, hs2, ho]
      exact ⟨hrun.fine, hrun.room, hrun.most, ⟨hep.1, he⟩, hrun.slotE, fun o ho => .inl (hrun.slotO o ho), by omega, (by
          intro x hx
          obtain ⟨p, _, hx⟩ := List.mem_flatMap.1 hx
          exact pieces_small p.length p (Nat.le_refl _) x hx), fun i x o _ hg ho => hrun.laid i x o hg ho, fun i x o hg ho => .inl (hrun.laid i x o hg ho),
        fun i o hi hd ho => by rw [key ho]; exact rest i hi hd, hrun.old, fun i x hg => by
          have := (List.getElem?_eq_some_iff.1 hg).1
          have hroom' := hrun.room
          exact hrun.laid i x _ hg (hrun.look (by omega))⟩

theorem least (P : Nat → Prop) (n : Nat) : ∃ m, m ≤ n ∧ (∀ i, i < m → P i) ∧ (m = n ∨ ¬ P m) := by
  induction n with
  | zero => exact ⟨0, Nat.le_refl _, fun i hi => by omega, .inl rfl⟩
  | succ n ih =>
    obtain ⟨m, h1, h2, h3⟩ := ih
    rcases h3 with rfl | h3
    · by_cases hp : P m
      · exact ⟨m + 1, Nat.le_refl _, fun i hi => by
          rcases Nat.lt_succ_iff_lt_or_eq.1 hi with hi | rfl
          · exact h2 i hi
          · exact hp, .inl rfl⟩
      · exact ⟨m, by omega, h2, .inr hp⟩
    · exact ⟨m, by omega, h2, .inr h3⟩
theorem pieces_more (n : Nat) : ∀ (p : List UInt8) (i : Nat) (x : Bool × List UInt8), p.length ≤ n → i + 1 < (pieces p).length → (pieces p)[i]? = some x → x.1 = true := by
  induction n with
  | zero =>
    intro p i x h hi hx
    rw [pieces, dif_pos (by omega)] at hi
    simp at hi
  | succ n ih =>
    intro p i x h hi hx
    rw [pieces] at hi hx
    by_cases hs : p.length ≤ 240
    · rw [dif_pos hs] at hi; simp at hi
    · rw [dif_neg hs] at hi hx
      match i with
      | 0 => simp at hx; subst hx; rfl
      | i + 1 => exact ih (p.drop 240) i x (by simp; omega) (by simpa using hi) (by simpa using hx)
theorem cut_at (tl : List (Bool × List UInt8)) (htl : ∀ x ∈ tl, x.1 = true) : ∀ (all : List (List UInt8)) (m : Nat), ∃ j, j ≤ all.length ∧ (flat (all.take j)).length ≤ m ∧
    (∀ i x, (flat (all.take j)).length ≤ i → i < m → (flat all ++ tl)[i]? = some x → x.1 = true) ∧ ∀ s, s ≤ all.length → (flat (all.take s)).length ≤ m → s ≤ j := by
  intro all
  induction all with
  | nil =>
    intro m
    refine ⟨0, Nat.le_refl _, by simp [flat], fun i x _ _ hx => ?_, fun s hs _ => by simpa using hs⟩
    exact htl x (List.mem_of_getElem? (by simpa [flat] using hx))
  | cons p r ih =>
    intro m
    have hf : flat (p :: r) = pieces p ++ flat r := rfl
    have hft : ∀ s, flat ((p :: r).take (s + 1)) = pieces p ++ flat (r.take s) := fun s => rfl
    by_cases hm : m < (pieces p).length
    · refine ⟨0, Nat.zero_le _, by simp [flat], fun i x _ hi hx => ?_, fun s hs hl => ?_⟩
      · rw [hf, List.append_assoc, List.getElem?_append_left (by omega)] at hx
        exact pieces_more p.length p i x (Nat.le_refl _) (by omega) hx
      · match s with
        | 0 => exact Nat.le_refl _
        | s + 1 => rw [hft, List.length_append] at hl; omega
    · obtain ⟨j, h1, h2, h3, h4⟩ := ih (m - (pieces p).length)
      refine ⟨j + 1, by simpa using h1, by rw [hft, List.length_append]; omega, fun i x hi hlt hx => ?_, fun s hs hl => ?_⟩
      · rw [hft, List.length_append] at hi
        rw [hf, List.append_assoc, List.getElem?_append_right (by omega)] at hx
        exact h3 (i - (pieces p).length) x (by omega) (by omega) hx
      · match s with
        | 0 => exact Nat.zero_le _
        | s + 1 =>
          rw [hft, List.length_append] at hl
          have := h4 s (by simpa using hs) (by omega)
          omega
/-- Whatever is lost: a beginning of what was appended, and all that was safe; or the Reset that was under way was done. -/
theorem Held.crashes {d : Dk} {first data e ns : Nat} {all : List (List UInt8)} {tl : List (Bool × List UInt8)} {r : Bool} (h : Held d first data e (flat all ++ tl) ns r) (htl : ∀ x ∈ tl, x.1 = true)
    (hall : ∀ p ∈ all, 1 ≤ p.length ∧ p.length ≤ 2000) (safe : Nat) (hsafe : safe ≤ all.length) (hns : (flat (all.take safe)).length ≤ ns) (raw : List Int) :
    (∃ j stop, safe ≤ j ∧ j ≤ all.length ∧ Dirty (d.crash raw) first data e (all.take j) stop) ∨ (r = true ∧ Dirty (d.crash raw) first data (e + 1) [] 0) := by
  obtain ⟨c1, c2, c3⟩ := crash_fines h.fine raw
  have hep := h.ep
  have hroom : first + 2 + data ≤ (loses d.secs raw).length := by rw [loses_length]; exact h.room
  have hlook : ∀ {j : Nat} {o : Option (List UInt8)}, May (loses d.secs raw) j o → o = (d.crash raw).look j := fun ho => may_still c2 (-1) ho
  have hmay : ∀ {j : Nat}, j < (loses d.secs raw).length → May d.secs j ((d.crash raw).look j) := fun hj => c3 _ _ (may_look c1 (-1) hj)
  by_cases hso : slotOf ((d.crash raw).look (first + (e + 1) % 2)) ≤ e
  · left
    obtain ⟨m, hm1, hm2, hm3⟩ := least (fun i => ∀ x, (flat all ++ tl)[i]? = some x → (d.crash raw).look (first + 2 + i) = piece e i x) (flat all ++ tl).length
    obtain ⟨j, hj1, hj2, hj3, hj4⟩ := cut_at tl htl all m
    have hpre : ∀ (k i : Nat) (x : Bool × List UInt8), (flat (all.take k))[i]? = some x → (flat all ++ tl)[i]? = some x := by
      intro k i x hx
      have hlt := (List.getElem?_eq_some_iff.1 hx).1
      have : flat all = flat (all.take k) ++ flat (all.drop k) := by rw [flat, flat, flat, ← List.flatMap_append, List.take_append_drop]
      rw [this, List.append_assoc, List.getElem?_append_left hlt, hx]
    have hfit := h.fit
    refine ⟨j, m, hj4 safe hsafe ?_, hj1, c1, hroom, h.most, ⟨hep.1, by omega⟩, fun o ho => h.slotE o (c3 _ _ ho), fun o ho => by rw [hlook ho]; exact hso, fun p hp => hall p (List.mem_of_mem_take hp), ⟨hj2, by omega⟩, ?_, ?_, ?_, fun i o hi ho => h.old i o hi (c3 _ _ ho)⟩
    · rcases Nat.lt_or_ge m (flat (all.take safe)).length with hlt | hge
      · exfalso
        have hx : (flat (all.take safe))[m]? = some ((flat (all.take safe))[m]) := List.getElem?_eq_getElem hlt
        have hps := hpre safe m _ hx
        have hml := (List.getElem?_eq_some_iff.1 hps).1
        rcases hm3 with rfl | hm3
        · omega
        · exact hm3 (fun x hx' => h.keep m x _ (by omega) hx' (hmay (by omega)))
      · exact hge
    · intro i x o hg ho
      rw [hlook ho]
      exact hm2 i (by have := (List.getElem?_eq_some_iff.1 hg).1; omega) x (hpre j i x hg)
    · intro i o hi him ho
      rw [hlook ho]
      have hx : (flat all ++ tl)[i]? = some ((flat all ++ tl)[i]'(by omega)) := List.getElem?_eq_getElem (by omega)
      have h1 := hj3 i _ hi him hx
      have h2 := hm2 i him _ hx
      refine .inr ⟨((flat all ++ tl)[i]'(by omega)).2, h.small _ (List.getElem_mem _), ?_⟩
      rw [h2, ← h1]
    · intro o hmd ho
      rcases hm3 with rfl | hm3
      · exact h.rest _ o (Nat.le_refl _) hmd (c3 _ _ ho)
      · by_cases hml : m < (flat all ++ tl).length
        · rcases h.laid m _ o (List.getElem?_eq_getElem hml) (c3 _ _ ho) with h1 | h1
          · exfalso
            refine hm3 (fun x hx => ?_)
            rw [List.getElem?_eq_getElem hml] at hx
            cases hx
            rw [← hlook ho, h1]
          · exact h1
        · exact h.rest m o (by omega) hmd (c3 _ _ ho)
  · right
    have hs := h.slotO _ (hmay (j := first + (e + 1) % 2) (by omega))
    rcases hs with hs | ⟨hr, hs⟩
    · exact absurd hs hso
    · refine ⟨hr, c1, hroom, h.most, ⟨by omega, hep.2⟩, fun o ho => by rw [hlook ho]; exact hs, fun o ho => ?_, by simp, ⟨Nat.le_refl _, Nat.zero_le _⟩, by simp [flat], fun i o _ hi => by omega, fun o hd ho => (h.old 0 o hd (c3 _ _ ho)).next, fun i o hi ho => (h.old i o hi (c3 _ _ ho)).mono (by omega)⟩
      rw [show (e + 1 + 1) % 2 = e % 2 by omega] at ho
      rw [h.slotE o (c3 _ _ ho)]
      omega
/-- Pieces are laid, till a call fails. -/
theorem Held.runs (l : Lg) (qs : List (Bool × List UInt8)) : ∀ {d : Dk} {ns : Nat} {ps : List (Bool × List UInt8)} {r : Bool}, Held d l.first l.data l.epoch ps ns r → ns ≤ ps.length → (∀ x ∈ qs, x.2.length ≤ 240) → ps.length + qs.length ≤ l.data →
    ((d.run (l.laid ps.length qs)).2 = true ∧ Held (d.run (l.laid ps.length qs)).1 l.first l.data l.epoch (ps ++ qs) ns r) ∨
    ((d.run (l.laid ps.length qs)).2 = false ∧ (d.run (l.laid ps.length qs)).1.life = 0 ∧ ∃ k, k < qs.length ∧ Held (d.run (l.laid ps.length qs)).1 l.first l.data l.epoch (ps ++ qs.take k) ns r) := by
  induction qs with
  | nil => intro d ns ps r h _ _ _; exact .inl ⟨rfl, by rw [List.append_nil]; exact h⟩
  | cons x q ih =>
    intro d ns ps r h hns hq hd
    obtain ⟨m, c⟩ := x
    rw [List.length_cons] at hd
    rw [Lg.laid, Dk.run_cons]
    by_cases ha : d.alive = true
    · rw [if_pos ha]
      have h1 : Held (d.change (.wr (l.at_ ps.length) (pieceText l.epoch ps.length m c))) l.first l.data l.epoch (ps ++ [(m, c)]) ns r := by
        unfold Dk.change
        rw [if_pos ha]
        exact (h.lays hns (m, c) (hq _ (by simp)) (by omega)).tick _
      have hl : (ps ++ [(m, c)]).length = ps.length + 1 := by simp
      have := ih h1 (by omega) (fun x hx => hq x (by simp [hx])) (by omega)
      rw [hl, List.append_assoc] at this
      rcases this with h2 | ⟨h2, h3, k, hk, h4⟩
      · exact .inl h2
      · exact .inr ⟨h2, h3, k + 1, by rw [List.length_cons]; omega, by rw [List.append_assoc] at h4; exact h4⟩
    · rw [if_neg ha]
      refine .inr ⟨rfl, ?_, 0, by simp, ?_⟩
      · unfold Dk.change Dk.tick
        rw [if_neg ha]
        unfold Dk.alive at ha
        simp at ha
        show (if 0 < d.life then d.life - 1 else d.life) = 0
        split <;> omega
      · unfold Dk.change
        rw [if_neg ha, List.take_zero, List.append_nil]
        exact h.tick _
end Pl
end Go.Proofs.YtljmklohgpaopaaDoor
