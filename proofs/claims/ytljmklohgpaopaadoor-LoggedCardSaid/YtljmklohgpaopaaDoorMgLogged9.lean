/- Plain: a log on a disk that does not die has what was laid into it. No program in sight. The walk of the log's clean. -/
import Derived.Test.YtljmklohgpaopaaDoorMgLogged3
import Derived.Test.YtljmklohgpaopaaDoorMgLogged8
set_option linter.unusedVariables false
set_option linter.unusedSimpArgs false

namespace Go.Proofs.YtljmklohgpaopaaDoor
namespace Pl

theorem alive_of {d : Dk} (h : d.life < 0) : d.alive = true := by unfold Dk.alive; simp [h]
theorem change_of {d : Dk} (h : d.life < 0) (c : Ch) : d.change c = { d with secs := c.on d.secs } := by
  have h0 : ¬ 0 < d.life := by omega
  simp [Dk.change, Dk.tick, alive_of h, h0]
theorem run_of {d : Dk} (h : d.life < 0) (l : List Ch) : d.run l = ({ d with secs := l.foldl (fun s c => c.on s) d.secs }, true) := by
  induction l generalizing d with
  | nil => rfl
  | cons c r ih =>
    rw [Dk.run_cons, alive_of h, if_pos rfl, change_of h, ih (by exact h)]
    rfl
theorem on_length (c : Ch) (l : List Sec) : (c.on l).length = l.length := by cases c <;> simp [Ch.on]
theorem foldl_length (l : List Ch) : ∀ s : List Sec, (l.foldl (fun s c => c.on s) s).length = s.length := by
  induction l with
  | nil => intro s; rfl
  | cons c r ih => intro s; rw [List.foldl_cons, ih, on_length]
/-- All sectors can be read, and are of their size. -/
def Sound (s : List Sec) : Prop := ∀ x ∈ s, x.now.length = 256 ∧ x.broken = false
def Ch.fits : Ch → Prop
  | .wr _ t => t.length ≤ 256
  | .sy => True
theorem flush_now (s : Sec) : s.flush.now = s.now ∧ s.flush.broken = s.broken := by
  unfold Sec.flush
  split <;> exact ⟨rfl, rfl⟩
theorem sound_on {s : List Sec} (h : Sound s) (c : Ch) (hc : c.fits) : Sound (c.on s) := by
  intro x hx
  cases c with
  | wr i t =>
    obtain ⟨k, hk⟩ := List.getElem?_of_mem hx
    simp only [Ch.on, List.getElem?_modify] at hk
    cases hs : s[k]? with
    | none => rw [hs] at hk; cases hk
    | some y =>
      rw [hs] at hk
      by_cases hik : i = k
      · simp [hik] at hk
        subst hk
        have hc' : t.length ≤ 256 := hc
        exact ⟨by simp [Sec.put, zeros]; omega, rfl⟩
      · simp [hik] at hk
        subst hk
        exact h y (List.mem_of_getElem? hs)
  | sy =>
    obtain ⟨y, hy, rfl⟩ := List.mem_map.1 hx
    rw [(flush_now y).1, (flush_now y).2]
    exact h y hy
theorem sound_fold {l : List Ch} : ∀ {s : List Sec}, Sound s → (∀ c ∈ l, c.fits) → Sound (l.foldl (fun s c => c.on s) s) := by
  induction l with
  | nil => intro s h _; exact h
  | cons c r ih => intro s h hc; exact ih (sound_on h c (hc c (by simp))) (fun x hx => hc x (by simp [hx]))
theorem Sound.look {d : Dk} (h : Sound d.secs) (i : Nat) (hi : i < d.secs.length) : ∃ s, d.look i = some s ∧ s.length = 256 := by
  have := h _ (List.getElem_mem hi)
  refine ⟨d.secs[i].now, ?_, this.1⟩
  unfold Dk.look
  rw [List.getElem?_eq_getElem hi]
  simp [this.2]
theorem look_wr (s : List Sec) (life : Int) (i j : Nat) (t : List UInt8) (hi : i < s.length) : (Dk.mk (Ch.on (.wr i t) s) life).look j = if i = j then some (t ++ zeros (256 - t.length)) else (Dk.mk s life).look j := by
  unfold Dk.look
  simp only [Ch.on, List.getElem?_modify]
  by_cases h : i = j
  · subst h
    rw [List.getElem?_eq_getElem hi]
    simp [Sec.put]
  · cases s[j]? <;> simp [h]
theorem look_sy (s : List Sec) (life : Int) (j : Nat) : (Dk.mk (Ch.on .sy s) life).look j = (Dk.mk s life).look j := by
  unfold Dk.look
  simp only [Ch.on, List.getElem?_map]
  cases s[j]? with
  | none => rfl
  | some x => simp [(flush_now x).1, (flush_now x).2]

structure LogOk (d : Dk) (l : Lg) : Prop where
  live : d.life < 0
  sound : Sound d.secs
  room : l.first + 2 + l.data ≤ d.secs.length
  data : 2 ≤ l.data ∧ l.data < 4294967296
  ep : 1 ≤ l.epoch ∧ l.epoch < 256 ^ 8
  slots : max (slotOf (d.look l.first)) (slotOf (d.look (l.first + 1))) = l.epoch
  next : l.next = (flat l.all).length
  fit : l.next ≤ l.data
  small : ∀ p ∈ l.all, 1 ≤ p.length ∧ p.length ≤ 2000
  laid : ∀ i m c, (flat l.all)[i]? = some (m, c) → d.look (l.first + 2 + i) = some (pieceText l.epoch i m c ++ zeros (256 - (pieceText l.epoch i m c).length))
  clean : ∀ i s, l.next ≤ i → i < l.data → d.look (l.first + 2 + i) = some s → ownOf l.epoch s = false
  old : ∀ i s, i < l.data → d.look (l.first + 2 + i) = some s → s.headD 0 = 76 → num ((s.drop 1).take 8) ≤ l.epoch
  bad : l.bad = false

theorem map_split (f : Nat → Option (List UInt8)) (a n : Nat) (h : a ≤ n) : (List.range n).map f = (List.range a).map f ++ (List.range (n - a)).map (fun i => f (a + i)) := by
  conv => lhs; rw [show n = a + (n - a) by omega, List.range_add]
  rw [List.map_append, List.map_map]
  rfl
theorem texts_get (e : Nat) (l : List (Bool × List UInt8)) : ∀ (j i : Nat) (m : Bool) (c : List UInt8), l[i]? = some (m, c) → (texts e j l)[i]? = some (some (pieceText e (j + i) m c ++ zeros (256 - (pieceText e (j + i) m c).length))) := by
  induction l with
  | nil => intro j i m c h; simp at h
  | cons a r ih =>
    intro j i m c h
    obtain ⟨m', c'⟩ := a
    match i with
    | 0 => simp at h; obtain ⟨rfl, rfl⟩ := h; rfl
    | i + 1 =>
      rw [texts, List.getElem?_cons_succ, ih (j + 1) i m c (by simpa using h), show j + 1 + i = j + (i + 1) by omega]

theorem LogOk.reads {d : Dk} {l : Lg} (h : LogOk d l) : (List.range l.data).map (fun i => d.look (l.first + 2 + i)) = texts l.epoch 0 (flat l.all) ++ (List.range (l.data - l.next)).map (fun i => d.look (l.first + 2 + (l.next + i))) := by
  rw [map_split _ l.next l.data h.fit]
  congr 1
  apply List.ext_getElem?
  intro i
  by_cases hi : i < l.next
  · have hl : i < (flat l.all).length := by rw [← h.next]; exact hi
    rcases hp : (flat l.all)[i] with ⟨m, c⟩
    have hg : (flat l.all)[i]? = some (m, c) := by rw [List.getElem?_eq_getElem hl, hp]
    rw [texts_get _ _ 0 i m c hg, List.getElem?_map, List.getElem?_range hi]
    simp only [Option.map_some, Nat.zero_add]
    rw [h.laid i m c hg]
  · rw [List.getElem?_eq_none (by simp; omega), List.getElem?_eq_none (by rw [texts_length, ← h.next]; omega)]
theorem LogOk.scans {d : Dk} {l : Lg} (h : LogOk d l) : scan l.epoch ((List.range l.data).map (fun i => d.look (l.first + 2 + i))) 0 [] [] 0 = (l.all, l.next) := by
  have hd := h.data
  have hf := h.fit
  rw [h.reads, scan_all l.epoch h.ep.2 _ l.all 0 [] (by rw [← h.next]; omega) (fun p hp => (h.small p hp).2), scan_stop, List.nil_append, Nat.zero_add, ← h.next]
  intro s hs
  rw [List.getElem?_map] at hs
  by_cases hz : 0 < l.data - l.next
  · rw [List.getElem?_range hz] at hs
    simp at hs
    exact h.clean l.next s (Nat.le_refl _) (by omega) hs
  · rw [List.getElem?_eq_none (by simp; omega)] at hs
    cases hs
theorem LogOk.opens {d : Dk} {l : Lg} (h : LogOk d l) : openLog d l.first (l.data + 2) = (d, .inr l) := by
  have hl := h.live
  have he := h.ep
  unfold openLog
  rw [if_neg (by omega)]
  simp only [h.slots, Nat.add_sub_cancel]
  rw [if_neg (by omega), h.scans]
  have hst : stale d l.epoch l.first l.next l.data = [] := by
    unfold stale
    rw [List.map_eq_nil_iff, List.filter_eq_nil_iff]
    intro i hi
    simp only [decide_eq_true_eq, not_and]
    intro hn ho
    cases hk : d.look (l.first + 2 + i) with
    | none => rw [hk] at ho; simp at ho
    | some s =>
      have := h.clean i s hn (by simpa using hi) hk
      rw [hk] at ho
      simp [this] at ho
  simp only [hst, cleaned, List.isEmpty_nil, if_true, Dk.run_nil]
  have hb := h.bad
  cases l
  simp at hb
  simp [hb]

theorem fold_laid (l : Lg) (life : Int) (ps : List (Bool × List UInt8)) : ∀ (n : Nat) (s : List Sec), l.first + 2 + (n + ps.length) ≤ s.length → ∀ j,
    (Dk.mk ((l.laid n ps).foldl (fun s c => c.on s) s) life).look j =
      if l.first + 2 + n ≤ j ∧ j < l.first + 2 + (n + ps.length) then (texts l.epoch n ps)[j - (l.first + 2 + n)]?.join else (Dk.mk s life).look j := by
  induction ps with
  | nil =>
    intro n s hs j
    rw [if_neg (by simp)]
    rfl
  | cons a r ih =>
    intro n s hs j
    obtain ⟨m, c⟩ := a
    rw [List.length_cons] at hs ⊢
    rw [Lg.laid, List.foldl_cons, ih (n + 1) _ (by rw [on_length]; omega) j, Lg.at_, look_wr _ _ _ _ _ (by omega)]
    by_cases h1 : l.first + 2 + (n + 1) ≤ j ∧ j < l.first + 2 + (n + 1 + r.length)
    · rw [if_pos h1, if_pos (by omega), texts, show j - (l.first + 2 + n) = (j - (l.first + 2 + (n + 1))) + 1 by omega, List.getElem?_cons_succ]
    · rw [if_neg h1]
      by_cases h2 : l.first + 2 + n = j
      · subst h2
        rw [if_pos rfl, if_pos (by omega), Nat.sub_self]
        rfl
      · rw [if_neg h2, if_neg (by omega)]
theorem piece_length (e i : Nat) (m : Bool) (c : List UInt8) : (pieceText e i m c).length = 16 + c.length := by simp [pieceText, be_length]; omega
theorem pieces_small (n : Nat) : ∀ p : List UInt8, p.length ≤ n → ∀ x ∈ pieces p, x.2.length ≤ 240 := by
  induction n with
  | zero =>
    intro p h x hx
    rw [pieces, dif_pos (by omega)] at hx
    simp at hx; subst hx; simp; omega
  | succ n ih =>
    intro p h x hx
    rw [pieces] at hx
    by_cases hs : p.length ≤ 240
    · rw [dif_pos hs] at hx
      simp at hx; subst hx; exact hs
    · rw [dif_neg hs] at hx
      rcases List.mem_cons.1 hx with rfl | hx
      · simp; omega
      · exact ih (p.drop 240) (by simp; omega) x hx
theorem laid_fits (l : Lg) (ps : List (Bool × List UInt8)) (h : ∀ x ∈ ps, x.2.length ≤ 240) : ∀ n, ∀ c ∈ l.laid n ps, c.fits := by
  induction ps with
  | nil => intro n c hc; simp [Lg.laid] at hc
  | cons a r ih =>
    intro n c hc
    obtain ⟨m, t⟩ := a
    rw [Lg.laid] at hc
    rcases List.mem_cons.1 hc with rfl | hc
    · show (pieceText l.epoch n m t).length ≤ 256
      rw [piece_length]
      have := h (m, t) (by simp)
      simp at this
      omega
    · exact ih (fun x hx => h x (by simp [hx])) (n + 1) c hc

theorem LogOk.appends {d : Dk} {l : Lg} (h : LogOk d l) (p : List UInt8) (h1 : 1 ≤ p.length) (h2 : p.length ≤ 2000) (h3 : l.next + chunks p.length ≤ l.data) :
    ∃ d', l.append d p = ({ l with next := l.next + chunks p.length, all := l.all ++ [p] }, d', 0) ∧ d'.secs.length = d.secs.length ∧ LogOk d' { l with next := l.next + chunks p.length, all := l.all ++ [p] } := by
  have hp := pieces_length p.length p (Nat.le_refl _) h1
  have hsm := pieces_small p.length p (Nat.le_refl _)
  have hroom := h.room
  have hlen : (flat (l.all ++ [p])).length = l.next + chunks p.length := by rw [flat, List.flatMap_append, List.length_append, ← flat, ← h.next]; simp [hp]
  have hlook := fold_laid l d.life (pieces p) l.next d.secs (by rw [hp]; omega)
  refine ⟨{ d with secs := (l.laid l.next (pieces p)).foldl (fun s c => c.on s) d.secs }, ?_, ?_, ⟨h.live, ?_, ?_, h.data, h.ep, ?_, hlen.symm, h3, ?_, ?_, ?_, ?_, h.bad⟩⟩
  · unfold Lg.append
    rw [if_neg (by omega), if_neg (by omega), h.bad, if_neg (by decide), run_of h.live]
  · exact foldl_length _ _
  · exact sound_fold h.sound (laid_fits l _ hsm _)
  · show l.first + 2 + l.data ≤ ((l.laid l.next (pieces p)).foldl (fun s c => c.on s) d.secs).length
    rw [foldl_length]; exact h.room
  · show max (slotOf ((Dk.mk _ d.life).look l.first)) (slotOf ((Dk.mk _ d.life).look (l.first + 1))) = l.epoch
    rw [hlook, hlook, if_neg (by omega), if_neg (by omega)]
    exact h.slots
  · intro q hq
    rcases List.mem_append.1 hq with hq | hq
    · exact h.small q hq
    · simp at hq; subst hq; exact ⟨h1, h2⟩
  · intro i m c hi
    show (Dk.mk _ d.life).look (l.first + 2 + i) = _
    have hfa : flat (l.all ++ [p]) = flat l.all ++ pieces p := by simp [flat]
    change (flat (l.all ++ [p]))[i]? = _ at hi
    rw [hfa] at hi
    rw [hlook]
    by_cases hlt : i < l.next
    · rw [if_neg (by omega)]
      rw [List.getElem?_append_left (by rw [← h.next]; exact hlt)] at hi
      exact h.laid i m c hi
    · have hil : i < (flat l.all ++ pieces p).length := (List.getElem?_eq_some_iff.1 hi).1
      rw [List.length_append, ← h.next] at hil
      rw [List.getElem?_append_right (by rw [← h.next]; omega), ← h.next] at hi
      rw [if_pos (by omega), show l.first + 2 + i - (l.first + 2 + l.next) = i - l.next by omega, texts_get _ _ l.next _ m c hi, show l.next + (i - l.next) = i by omega]
      rfl
  · intro i s hi hd hs
    change l.next + chunks p.length ≤ i at hi
    change (Dk.mk _ d.life).look (l.first + 2 + i) = _ at hs
    rw [hlook, if_neg (by rw [hp]; omega)] at hs
    exact h.clean i s (by omega) hd hs
  · intro i s hd hs hh
    change (Dk.mk _ d.life).look (l.first + 2 + i) = _ at hs
    rw [hlook] at hs
    by_cases hc : l.first + 2 + l.next ≤ l.first + 2 + i ∧ l.first + 2 + i < l.first + 2 + (l.next + (pieces p).length)
    · rw [if_pos hc] at hs
      rcases hpp : (pieces p)[i - l.next]'(by omega) with ⟨m, c⟩
      have hg : (pieces p)[i - l.next]? = some (m, c) := by rw [List.getElem?_eq_getElem (by omega), hpp]
      rw [show l.first + 2 + i - (l.first + 2 + l.next) = i - l.next by omega, texts_get _ _ l.next _ m c hg] at hs
      simp at hs
      have hd := h.data
      have := piece_parts l.epoch (l.next + (i - l.next)) m c (zeros (256 - (pieceText l.epoch (l.next + (i - l.next)) m c).length)) h.ep.2 (by rw [hp] at hc; omega) (hsm _ (List.mem_of_getElem? hg))
      rw [hs] at this
      have ho := this.1
      unfold ownOf at ho
      simp at ho
      show num ((s.drop 1).take 8) ≤ l.epoch
      rw [List.drop_one, ho.2]
      exact Nat.le_refl _
    · rw [if_neg hc] at hs
      exact h.old i s hd hs hh
theorem LogOk.syncs {d : Dk} {l : Lg} (h : LogOk d l) : ∃ d', l.sync d = (l, d', 0) ∧ d'.secs.length = d.secs.length ∧ LogOk d' l := by
  refine ⟨{ d with secs := Ch.on .sy d.secs }, ?_, by simp only [on_length], ⟨h.live, sound_on h.sound .sy trivial, ?_, h.data, h.ep, ?_, h.next, h.fit, h.small, ?_, ?_, ?_, h.bad⟩⟩
  · unfold Lg.sync
    rw [h.bad, if_neg (by decide), run_of h.live]
    rfl
  · simp only [on_length]; exact h.room
  · rw [look_sy, look_sy]; exact h.slots
  · intro i m c hi; rw [look_sy]; exact h.laid i m c hi
  · intro i s hi hd hs; rw [look_sy] at hs; exact h.clean i s hi hd hs
  · intro i s hd hs hh; rw [look_sy] at hs; exact h.old i s hd hs hh
theorem slotOf_slot (e : Nat) (z : List UInt8) (h : e < 256 ^ 8) : slotOf (some (slotText e ++ z)) = e := by
  unfold slotText slotOf
  simp only [List.cons_append]
  rw [List.take_left' (be_length 8 e), num_be 8 e h]
theorem LogOk.resets {d : Dk} {l : Lg} (h : LogOk d l) (he : l.epoch + 1 < 256 ^ 8) : ∃ d', l.reset d = ({ l with epoch := l.epoch + 1, next := 0, all := [] }, d', 0) ∧ d'.secs.length = d.secs.length ∧ LogOk d' { l with epoch := l.epoch + 1, next := 0, all := [] } := by
  have hroom := h.room
  have hlook : ∀ j, (Dk.mk (Ch.on .sy (Ch.on (.wr (l.first + (l.epoch + 1) % 2) (slotText (l.epoch + 1))) d.secs)) d.life).look j = if l.first + (l.epoch + 1) % 2 = j then some (slotText (l.epoch + 1) ++ zeros (256 - (slotText (l.epoch + 1)).length)) else d.look j := by
    intro j
    rw [look_sy, look_wr _ _ _ _ _ (by omega)]
  have hslots := h.slots
  refine ⟨{ d with secs := Ch.on .sy (Ch.on (.wr (l.first + (l.epoch + 1) % 2) (slotText (l.epoch + 1))) d.secs) }, ?_, ?_, ⟨h.live, ?_, ?_, h.data, ⟨by show 1 ≤ l.epoch + 1; omega, he⟩, ?_, rfl, Nat.zero_le _, by simp, ?_, ?_, ?_, h.bad⟩⟩
  · unfold Lg.reset
    rw [h.bad, if_neg (by decide), run_of h.live]
    rfl
  · simp only [on_length]
  · exact sound_on (sound_on h.sound (.wr _ (slotText (l.epoch + 1))) (by simp [Ch.fits, slotText, be_length])) .sy trivial
  · simp only [on_length]; exact h.room
  · show max (slotOf ((Dk.mk _ d.life).look l.first)) (slotOf ((Dk.mk _ d.life).look (l.first + 1))) = l.epoch + 1
    rw [hlook, hlook]
    by_cases hp : (l.epoch + 1) % 2 = 0
    · rw [hp, if_pos (by omega), if_neg (by omega), slotOf_slot _ _ he]
      omega
    · have hp' : (l.epoch + 1) % 2 = 1 := by omega
      rw [hp', if_neg (by omega), if_pos (by omega), slotOf_slot _ _ he]
      omega
  · intro i m c hi; simp [flat] at hi
  · intro i s _ hd hs
    change (Dk.mk _ d.life).look (l.first + 2 + i) = _ at hs
    rw [hlook, if_neg (by omega)] at hs
    unfold ownOf
    by_cases hh : s.headD 0 = 76
    · have := h.old i s hd hs hh
      have hne : num ((s.drop 1).take 8) ≠ l.epoch + 1 := by omega
      rw [Bool.and_eq_false_iff]
      exact .inr (by simpa using hne)
    · rw [Bool.and_eq_false_iff]
      exact .inl (by simpa using hh)
  · intro i s hd hs hh
    change (Dk.mk _ d.life).look (l.first + 2 + i) = _ at hs
    rw [hlook, if_neg (by omega)] at hs
    exact Nat.le_succ_of_le (h.old i s hd hs hh)
theorem fold_wipe (life : Int) (first : Nat) (n : Nat) : ∀ (s : List Sec), first + n ≤ s.length → ∀ j,
    (Dk.mk (((List.range n).map (fun i => Ch.wr (first + i) [])).foldl (fun s c => c.on s) s) life).look j = if first ≤ j ∧ j < first + n then some (zeros 256) else (Dk.mk s life).look j := by
  induction n with
  | zero => intro s _ j; rw [if_neg (by omega)]; rfl
  | succ n ih =>
    intro s hs j
    rw [List.range_succ, List.map_append, List.foldl_append]
    simp only [List.map_cons, List.map_nil, List.foldl_cons, List.foldl_nil]
    rw [look_wr _ _ _ _ _ (by rw [foldl_length]; omega), ih s (by omega) j]
    by_cases h1 : first + n = j
    · rw [if_pos h1, if_pos (by omega)]; rfl
    · rw [if_neg h1]
      by_cases h2 : first ≤ j ∧ j < first + n
      · rw [if_pos h2, if_pos (by omega)]
      · rw [if_neg h2, if_neg (by omega)]
theorem head_zeros : (zeros 256).headD 0 = 0 := rfl
theorem create_ok {d : Dk} (live : d.life < 0) (sound : Sound d.secs) (first n : Nat) (hn : 4 ≤ n) (hn2 : n < 4294967296) (hr : first + n ≤ d.secs.length) :
    ∃ d', createLog d first n = (d', 0) ∧ d'.secs.length = d.secs.length ∧ LogOk d' ⟨first, n - 2, 1, 0, [], false⟩ := by
  have hlook : ∀ j, (Dk.mk (Ch.on .sy (Ch.on (.wr (first + 1) (slotText 1)) (Ch.on .sy (((List.range n).map (fun i => Ch.wr (first + i) [])).foldl (fun s c => c.on s) d.secs)))) d.life).look j =
      if first + 1 = j then some (slotText 1 ++ zeros (256 - (slotText 1).length)) else if first ≤ j ∧ j < first + n then some (zeros 256) else d.look j := by
    intro j
    rw [look_sy, look_wr _ _ _ _ _ (by rw [on_length, foldl_length]; omega), look_sy, fold_wipe _ _ _ _ hr]
  refine ⟨{ d with secs := Ch.on .sy (Ch.on (.wr (first + 1) (slotText 1)) (Ch.on .sy (((List.range n).map (fun i => Ch.wr (first + i) [])).foldl (fun s c => c.on s) d.secs))) }, ?_, ?_, ⟨live, ?_, ?_, ?_, ?_, ?_, rfl, Nat.zero_le _, by simp, ?_, ?_, ?_, rfl⟩⟩
  · unfold createLog createOps
    rw [run_of live, List.foldl_append]
    rfl
  · simp only [on_length, foldl_length]
  · refine sound_on (sound_on (sound_on (sound_fold sound ?_) .sy trivial) (.wr _ (slotText 1)) (by simp [Ch.fits, slotText, be_length])) .sy trivial
    intro c hc
    obtain ⟨i, _, rfl⟩ := List.mem_map.1 hc
    simp [Ch.fits]
  · simp only [on_length, foldl_length]; omega
  · exact ⟨by show 2 ≤ n - 2; omega, by show n - 2 < _; omega⟩
  · exact ⟨Nat.le_refl _, by show 1 < 256 ^ 8; decide⟩
  · show max (slotOf ((Dk.mk _ d.life).look first)) (slotOf ((Dk.mk _ d.life).look (first + 1))) = 1
    rw [hlook, hlook, if_neg (by omega), if_pos (by omega), if_pos rfl, slotOf_slot 1 _ (by decide)]
    decide
  · intro i m c hi; simp [flat] at hi
  · intro i s _ hd hs
    change i < n - 2 at hd
    change (Dk.mk _ d.life).look (first + 2 + i) = _ at hs
    rw [hlook, if_neg (by omega), if_pos (by omega)] at hs
    simp at hs
    subst hs
    show ownOf 1 (zeros 256) = false
    decide
  · intro i s hd hs hh
    change i < n - 2 at hd
    change (Dk.mk _ d.life).look (first + 2 + i) = _ at hs
    rw [hlook, if_neg (by omega), if_pos (by omega)] at hs
    simp at hs
    subst hs
    rw [head_zeros] at hh
    cases hh
theorem new_sound (n : Int) : Sound (Dk.new n).secs := by
  intro x hx
  have := List.eq_of_mem_replicate hx
  subst this
  exact ⟨List.length_replicate, rfl⟩
end Pl
end Go.Proofs.YtljmklohgpaopaaDoor

namespace Go.Proofs.YtljmklohgpaopaaDoor
open Go.RowKit

namespace Pl
/-- Is the k-th sector stale? -/
def staleB (d : Dk) (e first k : Nat) : Bool := (d.look (first + 2 + k)).any (ownOf e)
theorem stale_succ (d : Dk) (e first next k : Nat) (h : next ≤ k) : stale d e first next (k + 1) = stale d e first next k ++ (if staleB d e first k then [.wr (first + 2 + k) []] else []) := by
  unfold stale staleB
  rw [List.range_succ, List.filter_append, List.map_append]
  congr 1
  by_cases hc : (d.look (first + 2 + k)).any (ownOf e) = true
  · simp [hc, h]
  · simp [hc]
theorem stale_none (d : Dk) (e first next : Nat) : ∀ k, k ≤ next → stale d e first next k = [] := by
  intro k hk
  unfold stale
  rw [List.map_eq_nil_iff, List.filter_eq_nil_iff]
  intro a ha
  have := List.mem_range.1 ha
  simp
  omega
theorem stale_split (d : Dk) (e first next k : Nat) (h : next ≤ k) (hc : staleB d e first k = true) : ∀ n, k < n → ∃ r, stale d e first next n = stale d e first next k ++ .wr (first + 2 + k) [] :: r := by
  intro n
  induction n with
  | zero => intro h; omega
  | succ n ih =>
    intro hn
    rw [stale_succ d e first next n (by omega)]
    by_cases he : k = n
    · subst he
      rw [if_pos hc]
      exact ⟨[], rfl⟩
    · obtain ⟨r, hr⟩ := ih (by omega)
      rw [hr]
      exact ⟨r ++ _, by rw [List.append_assoc]; rfl⟩
theorem cleaned_split {l a r : List Ch} {c : Ch} (h : l = a ++ c :: r) : cleaned l = a ++ c :: (r ++ [.sy]) := by
  subst h
  unfold cleaned
  rw [if_neg (by simp)]
  simp
theorem change_look {d : Dk} {i j : Nat} {t : List UInt8} (hal : d.alive = true) (hi : i < d.secs.length) (hij : i ≠ j) : (d.change (.wr i t)).look j = d.look j := by
  unfold Dk.change
  rw [if_pos hal]
  have := look_wr d.secs (d.tick).life i j t hi
  rw [if_neg hij] at this
  exact this
theorem change_life {d : Dk} {c : Ch} (hal : d.alive = true) : (d.change c).life ≠ 0 := by
  unfold Dk.change
  rw [if_pos hal]
  unfold Dk.alive at hal
  have hal := of_decide_eq_true hal
  show (d.tick).life ≠ 0
  unfold Dk.tick
  show (if 0 < d.life then d.life - 1 else d.life) ≠ 0
  split <;> omega
end Pl

def CleanPost (ops : List Pl.Ch) (gl g : Nat) (v va : Value) (vs : List Value) (d : Pl.Dk) (l : Pl.Lg) (w : World) (e : Ending) (w' : World) : Prop :=
  Ends (d.run ops).2 3 e ∧ (∃ rd', LogSt w' gl g v va vs (d.run ops).1 rd' l) ∧ Only (lF gl g v) w w'
theorem CleanPost.stop {ops a r : List Pl.Ch} {c : Pl.Ch} {gl g : Nat} {v va : Value} {vs : List Value} {d dk : Pl.Dk} {rd : Int} {l : Pl.Lg} {w w' : World} (he : ops = a ++ c :: r) (h : d.run a = (dk, true)) (hal : dk.alive = false) (hd : LogSt w' gl g v va vs (dk.change c) rd l) (ho : Only (lF gl g v) w w') : CleanPost ops gl g v va vs d l w (died 3) w' := by
  have := Pl.run_stop r h hal (c := c)
  rw [← he] at this
  unfold CleanPost
  rw [this]
  exact ⟨Ends.no 3, ⟨rd, hd⟩, ho⟩
theorem CleanPost.good {ops : List Pl.Ch} {gl g : Nat} {v va : Value} {vs : List Value} {d dk : Pl.Dk} {rd : Int} {l : Pl.Lg} {w w' : World} (h : d.run ops = (dk, true)) (hd : LogSt w' gl g v va vs dk rd l) (ho : Only (lF gl g v) w w') : CleanPost ops gl g v va vs d l w (.returned (.tuple #[])) w' := by
  unfold CleanPost
  rw [h]
  exact ⟨Ends.good 3, ⟨rd, hd⟩, ho⟩
/-- The disk is changed. -/
theorem LogSt.disked {w w2 : World} {gl g : Nat} {v va : Value} {vs : List Value} {d d2 : Pl.Dk} {rd rd2 : Int} {l : Pl.Lg} (h : LogSt w gl g v va vs d rd l) (hd : DiskAt w2 g v d2 rd2) (ho : Only (dF g v) w w2) : LogSt w2 gl g v va vs d2 rd2 l :=
  ⟨hd, h.cells.only ho h.disk.kinds (by decide), h.rows.only ho h.disk.kinds (by decide) (by decide)⟩
theorem sector_at (gl g : Nat) (va : Value) (l : Pl.Lg) (i p : Nat) (w : World) (h : LogCells w gl g va l) (hi : i ≤ 4096) (hp : l.first + 2 + i = p) :
    Calls Tryd.prog 90 #[.pointer (some ⟨gl, 0, none⟩), .int .i64 (i : Nat)] w fun e w' => e = .returned (.int .i64 (p : Nat)) ∧ w' = w := by
  subst hp
  exact sector_any gl g va l i w h hi

set_option maxHeartbeats 4000000 in
set_option maxRecDepth 100000 in
theorem clean_any (gl g : Nat) (v va : Value) (vs : List Value) (d : Pl.Dk) (rd : Int) (l : Pl.Lg) (w : World) (h : LogSt w gl g v va vs d rd l) (hlife : d.life ≠ 0) (hfit : l.first + 2 + l.data ≤ d.secs.length) :
    Calls Tryd.prog 65 #[.pointer (some ⟨gl, 0, none⟩)] w (CleanPost (Pl.cleaned (Pl.stale d l.epoch l.first l.next l.data)) gl g v va vs d l w) := by
  have HST := Lib.hid h
  have hsm := h.cells.small
  obtain ⟨a0, a1, a2, a3, a4, a5, a6, b0, b1, b2, b3, b4, b5, b6⟩ := facts7 h.cells.blk
  have HLF := Lib.hid hlife
  obtain ⟨st, hst⟩ : ∃ st, st = Pl.stale d l.epoch l.first l.next := ⟨_, rfl⟩
  rw [← hst]
  have HS := Lib.hid hst
  obtain ⟨N, hN⟩ : ∃ N, d.secs.length = N := ⟨_, rfl⟩
  have HN := Lib.hid hN
  rw [hN] at hfit
  have hes : (⟨#[]⟩ : ByteArray) = tstr [] := rfl
  have HES := Lib.hid hes
  obtain ⟨nx, hnx⟩ : ∃ n, l.next = n := ⟨_, rfl⟩
  have HNX := Lib.hid hnx
  rw [hnx] at a4 hsm
  clear h hlife hst hN hes hnx
  go_enter Tryd.func65, Tryd.ntmps65
  go_wp2_with fail
  clear a0 a1 a2 a3 a4 a5 a6 b0 b1 b2 b3 b4 b5 b6
  go_loopw [2, 3] (fun sw i W => ∃ (k : Nat) (dk : Pl.Dk) (rdk : Int), k ≤ l.data ∧ nx ≤ k ∧ sw = .bool (!(st k).isEmpty) ∧ i = .int .i64 (k : Int) ∧ Hid (d.run (st k) = (dk, true)) ∧ Hid (∀ j, k ≤ j → dk.look (l.first + 2 + j) = d.look (l.first + 2 + j)) ∧ Hid (dk.life ≠ 0) ∧
    Hid (LogSt W gl g v va vs dk rdk l) ∧ Hid (Only (lF gl g v) w W)) (fun _ i _ => l.data - (intOf i).toNat)
  case atStart =>
    have h0 : st nx = [] := by rw [HS.out, HNX.out]; exact Pl.stale_none _ _ _ _ _ (Nat.le_refl _)
    exact ⟨nx, d, rd, hsm.2.1, Nat.le_refl _, by rw [h0]; rfl, rfl, by rw [Hid, h0]; rfl, fun _ _ => rfl, HLF.out, HST.out, Only.refl _ _⟩
  case round =>
    obtain ⟨k, dk, rdk, hk, hnk, rfl, rfl, HR, HLK, HLI, HLS, HO⟩ := hrel
    obtain ⟨a0, a1, a2, a3, a4, a5, a6, b0, b1, b2, b3, b4, b5, b6⟩ := facts7 HLS.out.cells.blk
    have hlen : dk.secs.length = N := by
      have := Pl.run_length d (st k)
      rw [HR.out] at this
      exact this.trans HN.out
    have HLEN := Lib.hid hlen
    by_cases hkd : k < l.data
    · have s0 := Lib.hid a0
      obtain ⟨p, hp⟩ : ∃ p, l.first + 2 + k = p := ⟨_, rfl⟩
      have HP := Lib.hid hp
      have hin : p < dk.secs.length := by omega
      have hss : st (k + 1) = st k ++ (if Pl.staleB d l.epoch l.first k then [.wr (l.first + 2 + k) []] else []) := by rw [HS.out]; exact Pl.stale_succ _ _ _ _ _ (by rw [HNX.out]; exact hnk)
      have HSS := Lib.hid hss
      have hlk0 := HLK.out k (Nat.le_refl _)
      rw [hp] at hlk0
      have HLK0 := Lib.hid hlk0
      clear hss hlk0
      go_wp2_with fail
      cases hlo : dk.look p with
      | none =>
        have HLO := Lib.hid hlo
        have HNX2 : Hid (st (k + 1) = st k) := by
          rw [Hid, HSS.out, if_neg, List.append_nil]
          unfold Pl.staleB
          rw [HP.out, ← HLK0.out, HLO.out]
          simp
        clear hlo
        go_region_held3 (fun W : World => W.cell? ⟨gl, 0, none⟩ = some (.pointer (some ⟨g, 0, none⟩))) (first | exact s0.out | exact s1.out | fail) (first
          | (go_at_call 90; (with_reducible refine (sector_at gl g va l k p _ ?_ ?_ ?_).mono ?_); exact HLS.out.cells.below (w' := wr.drew) ((Below.refl _ _).drew); omega; exact HP.out; rintro e w' ⟨rfl, rfl⟩)
          | (go_at_call 62; (with_reducible refine (wread_none g v dk rdk p _ ?_ ?_ ?_ _ ?_ ?_).mono ?_); exact HLS.out.disk.below (w' := wr.drew) ((Below.refl _ _).drew); exact hin; exact HLI.out; rfl; exact HLO.out; rintro e w2 ⟨rfl, ⟨rd2, hd2, _⟩, ho2⟩
             have HLS2 : Hid (LogSt w2 gl g v va vs dk rd2 l) := HLS.out.read hd2 ⟨ho2.os, ho2.tape, ho2.output, ho2.size, ho2.block⟩
             have HO2 : Hid (Only (lF gl g v) w w2) := HO.out.trans' (Only.mono (F := (· = g)) ⟨ho2.os, ho2.tape, ho2.output, ho2.size, ho2.block⟩ (fun x _ hx => .inl (.inl hx)))
             have s1 := Lib.hid (HLS2.out.cells.blk.cell 0)
             clear hd2 ho2)
          | fail)
        go_wp2_with fail
        refine ⟨⟨k + 1, dk, rd2, by omega, by omega, ?_, by go_num, ?_, fun j hj => HLK.out j (by omega), HLI.out, HLS2.out.below (Below.refl _ _), HO2.out.below (Below.refl _ _)⟩, by simp [intOf]; omega⟩
        · rw [HNX2.out]
        · rw [HNX2.out]; exact HR.out
      | some s =>
        have HLO := Lib.hid hlo
        clear hlo
        have hs256 := look_sized HLS.out.disk HLO.out
        have hsb : Pl.staleB d l.epoch l.first k = Pl.ownOf l.epoch s := by
          unfold Pl.staleB
          rw [HP.out, ← HLK0.out, HLO.out]
          rfl
        have HSB := Lib.hid hsb
        clear hsb
        go_region_held3 (fun W : World => W.cell? ⟨gl, 0, none⟩ = some (.pointer (some ⟨g, 0, none⟩))) (first | exact s0.out | exact s1.out | fail) (first
          | (go_at_call 90; (with_reducible refine (sector_at gl g va l k p _ ?_ ?_ ?_).mono ?_); exact HLS.out.cells.below (w' := wr.drew) ((Below.refl _ _).drew); omega; exact HP.out; rintro e w' ⟨rfl, rfl⟩)
          | (go_at_call 62; (with_reducible refine (wread_some g v dk rdk p _ ?_ ?_ ?_ s _ ?_ ?_).mono ?_); exact HLS.out.disk.below (w' := wr.drew) ((Below.refl _ _).drew); exact hin; exact HLI.out; rfl; exact HLO.out; rintro e w2 ⟨rfl, ⟨rd2, hd2, _⟩, ho2⟩
             have HLS2 : Hid (LogSt w2 gl g v va vs dk rd2 l) := HLS.out.read hd2 ⟨ho2.os, ho2.tape, ho2.output, ho2.size, ho2.block⟩
             have HO2 : Hid (Only (lF gl g v) w w2) := HO.out.trans' (Only.mono (F := (· = g)) ⟨ho2.os, ho2.tape, ho2.output, ho2.size, ho2.block⟩ (fun x _ hx => .inl (.inl hx)))
             have s1 := Lib.hid (HLS2.out.cells.blk.cell 0)
             clear hd2 ho2)
          | fail)
        cases hown : Pl.ownOf l.epoch s with
        | false =>
          have HOW := Lib.hid hown
          have HNX2 : Hid (st (k + 1) = st k) := by
            rw [Hid, HSS.out, if_neg, List.append_nil]
            rw [HSB.out, HOW.out]
            decide
          clear hown
          go_wp2_with fail
          refine (own_any gl g va l s _ HLS2.out.cells hs256).mono ?_
          rintro e w3 ⟨he, n3, rfl⟩
          rw [show ownRes _ s = _ from ownRes_no HOW.out] at he
          subst he
          go_wp2_with fail
          refine ⟨⟨k + 1, dk, rd2, by omega, by omega, ?_, by go_num, ?_, fun j hj => HLK.out j (by omega), HLI.out, HLS2.out.below (below_drewN (Below.refl _ _) _), HO2.out.below (below_drewN (Below.refl _ _) _)⟩, by simp [intOf]; omega⟩
          · rw [HNX2.out]
          · rw [HNX2.out]; exact HR.out
        | true =>
          have HOW := Lib.hid hown
          have HNX2 : Hid (st (k + 1) = st k ++ [.wr p []]) := by
            rw [Hid, HSS.out, if_pos (by rw [HSB.out, HOW.out]), HP.out]
          obtain ⟨na, hna⟩ : ∃ n, Pl.num ((s.drop 9).take 4) = n := ⟨_, rfl⟩
          clear hown
          go_wp2_with fail
          refine (own_any gl g va l s _ HLS2.out.cells hs256).mono ?_
          rintro e w3 ⟨he, n3, rfl⟩
          rw [show ownRes _ s = _ from ownRes_yes HOW.out, hna] at he
          subst he
          obtain ⟨w3, hw3⟩ : ∃ w3, w2.drewN n3 = w3 := ⟨_, rfl⟩
          have hb3 : Below w2.heap.size w2 w3 := by rw [← hw3]; exact below_drewN (Below.refl _ _) _
          have HLS3 := Lib.hid (HLS2.out.below hb3)
          have HO3 := Lib.hid (HO2.out.below hb3)
          have s3 := Lib.hid (HLS3.out.cells.blk.cell 0)
          rw [hw3]
          clear hw3 hb3 hna
          go_wp2_with fail
          refine wp_region_held_drew (S := fun W : World => W.cell? ⟨gl, 0, none⟩ = some (.pointer (some ⟨g, 0, none⟩))) (by kernel_rfl) s3.out (fun hHeld => ?_)
          refine wpAnyH_take (i := 0) (oi := _) (v := ?_) rfl (by kernel_rfl) (by kernel_rfl) (by kernel_rfl) (fun _ _ _ h => h) (Or.inl ⟨by rfl, ?_⟩) (by assumption) ?_
          rotate_left
          · intro W hSw
            (try dsimp only at hSw)
            go_simp
            rfl
          (try simp only [Act.put, List.getElem_toArray, List.getElem_cons_succ, List.getElem_cons_zero, List.setIfInBounds_toArray, List.set_cons_zero, List.set_cons_succ])
          refine wpAnyH_take (i := 1) (oi := _) (v := ?_) rfl (by kernel_rfl) (by kernel_rfl) (by kernel_rfl) (fun _ _ _ h => h) (Or.inl ⟨by rfl, ?_⟩) (by assumption) ?_
          rotate_left
          · intro W hSw
            (try dsimp only at hSw)
            go_simp
            rfl
          (try simp only [Act.put, List.getElem_toArray, List.getElem_cons_succ, List.getElem_cons_zero, List.setIfInBounds_toArray, List.set_cons_zero, List.set_cons_succ])
          refine wpAnyH_take (i := 2) (oi := _) (v := ?_) rfl (by kernel_rfl) (by kernel_rfl) (by kernel_rfl) (fun _ _ _ h => h) (Or.inl ⟨by rfl, ?_⟩) (by assumption) ?_
          rotate_left
          · intro W hSw
            (try dsimp only at hSw)
            go_simp
            rfl
          (try simp only [Act.put, List.getElem_toArray, List.getElem_cons_succ, List.getElem_cons_zero, List.setIfInBounds_toArray, List.set_cons_zero, List.set_cons_succ])
          refine wpAnyH_take (i := 3) (oi := _) (v := ?_) rfl (by kernel_rfl) (by kernel_rfl) (by kernel_rfl) (fun _ _ _ h => h) (Or.inl ⟨by rfl, ?_⟩) (by assumption) ?_
          rotate_left
          · intro W hSw
            (try dsimp only at hSw)
            go_simp
            rfl
          (try simp only [Act.put, List.getElem_toArray, List.getElem_cons_succ, List.getElem_cons_zero, List.setIfInBounds_toArray, List.set_cons_zero, List.set_cons_succ])
          refine wpAnyH_take (i := 4) (oi := _) (v := ?_) rfl (by kernel_rfl) (by kernel_rfl) (by kernel_rfl) (fun _ _ _ h => h) (Or.inl ⟨by rfl, ?_⟩) (by assumption) ?_
          rotate_left
          · intro W hSw
            (try dsimp only at hSw)
            go_simp
            rfl
          (try simp only [Act.put, List.getElem_toArray, List.getElem_cons_succ, List.getElem_cons_zero, List.setIfInBounds_toArray, List.set_cons_zero, List.set_cons_succ])
          refine wpAnyH_take (i := 5) (oi := _) (v := ?_) rfl (by kernel_rfl) (by kernel_rfl) (by kernel_rfl) (fun _ _ _ h => h) (Or.inl ⟨by rfl, ?_⟩) (by assumption) ?_
          rotate_left
          · intro W hSw
            (try dsimp only at hSw)
            go_simp
            rfl
          (try simp only [Act.put, List.getElem_toArray, List.getElem_cons_succ, List.getElem_cons_zero, List.setIfInBounds_toArray, List.set_cons_zero, List.set_cons_succ])
          refine wpAnyH_ready (rs := [6]) (by kernel_rfl) (by simp) ?_
          refine AllReadyH.cons (o := _) rfl (fun K hK => ?_) AllReadyH.nil
          go_simp
          refine (sector_at gl g va l k p _ (HLS3.out.cells.below (w' := w3.drew) (Below.refl _ _).drew) (by omega) HP.out).mono ?_
          rintro e w4 ⟨rfl, rfl⟩
          go_wp2_with fail
          refine hK.out _ _ s3.out (fun hHeld3 => ?_)
          clear hK K
          (try simp only [Act.put, List.getElem_toArray, List.getElem_cons_succ, List.getElem_cons_zero, List.setIfInBounds_toArray, List.set_cons_zero, List.set_cons_succ])
          refine wpAnyH_ready (rs := [7]) (by kernel_rfl) (by simp) ?_
          refine AllReadyH.cons (o := _) rfl (fun K hK => ?_) AllReadyH.nil
          go_simp
          rw [HES.out]
          refine (wwrite_any g v dk rd2 p [] _ (HLS3.out.disk.below (w' := w3.drew) (Below.refl _ _).drew) hin (by simp)).mono ?_
          have hOd : ∀ W, Only (dF g v) w3.drew W → Only (dF g v) w3 W := fun W h => ⟨h.os, h.tape, h.output, h.size, h.block⟩
          rintro e w4 ⟨⟨hal, rfl⟩ | ⟨hal, rfl⟩, h4, ho4⟩
          · have HLS4 := Lib.hid (HLS3.out.disked h4 (hOd _ ho4))
            have HO4 := Lib.hid (HO3.out.trans' ((hOd _ ho4).mono (fun _ _ h => .inl h)))
            have R4 := Lib.hid (Pl.run_go (c := .wr p []) HR.out hal)
            have HL4 : Hid ((dk.change (.wr p [])).life ≠ 0) := Pl.change_life hal
            have HK4 : Hid (∀ j, k + 1 ≤ j → (dk.change (.wr p [])).look (l.first + 2 + j) = d.look (l.first + 2 + j)) := by
              intro j hj
              rw [Pl.change_look hal hin (by have := HP.out; omega)]
              exact HLK.out j (by omega)
            have s4 := Lib.hid (HLS4.out.cells.blk.cell 0)
            clear h4 ho4 hal hOd
            go_wp2_with fail
            refine hK.out _ _ s4.out (fun _ => ?_)
            refine wpAnyH_done (by kernel_rfl) ?_ _
            clear hK K hHeld hHeld3
            go_wp2_with fail
            refine ⟨⟨k + 1, _, rd2, by omega, by omega, ?_, by go_num, ?_, HK4.out, HL4.out, HLS4.out, HO4.out⟩, by simp [intOf]; omega⟩
            · rw [HNX2.out]
              simp
            · rw [HNX2.out]
              exact R4.out
          · have HLS4 := Lib.hid (HLS3.out.disked h4 (hOd _ ho4))
            have HO4 := Lib.hid (HO3.out.trans' ((hOd _ ho4).mono (fun _ _ h => .inl h)))
            have HAL := Lib.hid hal
            clear h4 ho4 hal hOd
            unfold died
            go_wp2_with fail
            obtain ⟨r, hr⟩ : ∃ r, st l.data = st k ++ .wr p [] :: r := by
              rw [HS.out, ← HP.out]
              exact Pl.stale_split _ _ _ _ _ (by rw [HNX.out]; exact hnk) (by rw [HSB.out, HOW.out]) _ hkd
            exact ⟨rfl, CleanPost.stop (Pl.cleaned_split hr) HR.out HAL.out HLS4.out HO4.out⟩
    · obtain rfl : k = l.data := by omega
      cases hem : (st l.data).isEmpty
      · have HC : Hid (Pl.cleaned (st l.data) = st l.data ++ [.sy]) := by unfold Pl.cleaned; rw [Hid, if_neg (by rw [hem]; decide)]
        clear hem
        go_wp2_with fail
        refine (wsync_any g v dk rdk _ HLS.out.disk).mono ?_
        rintro e w2 ⟨⟨hal, rfl⟩ | ⟨hal, rfl⟩, h2, ho2⟩
        · have HLS2 := Lib.hid (HLS.out.disked h2 ho2)
          have HO2 := Lib.hid (HO.out.trans' (ho2.mono (fun _ _ h => .inl h)))
          have R2 := Lib.hid (Pl.run_go (c := .sy) HR.out hal)
          clear h2 ho2 hal
          go_wp2_with fail
          go_end0
          exact CleanPost.good (by rw [HC.out]; exact R2.out) HLS2.out HO2.out
        · have HLS2 := Lib.hid (HLS.out.disked h2 ho2)
          have HO2 := Lib.hid (HO.out.trans' (ho2.mono (fun _ _ h => .inl h)))
          have HAL := Lib.hid hal
          clear h2 ho2 hal
          unfold died
          go_wp2_with fail
          exact ⟨rfl, CleanPost.stop (r := []) HC.out HR.out HAL.out HLS2.out HO2.out⟩
      · have HC : Hid (Pl.cleaned (st l.data) = st l.data) := by
          unfold Pl.cleaned
          rw [Hid, if_pos hem]
          exact (List.isEmpty_iff.1 hem).symm
        clear hem
        go_wp2_with fail
        go_end0
        exact CleanPost.good (by rw [HC.out]; exact HR.out) HLS.out HO.out
end Go.Proofs.YtljmklohgpaopaaDoor
