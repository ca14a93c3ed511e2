/- Plain: pages of a tree of pairs: what leaves makes. No program in sight. Plain: a tree of pages, of one height; what Put makes of it. No program in sight. Plain: fit pages: what a tree that Put makes keeps. No program in sight. -/
import Derived.Test.YtljmklohgpaopaaGreatDoorMgPlanted1
set_option linter.unusedVariables false
set_option linter.unusedSimpArgs false

namespace Go.Proofs.YtljmklohgpaopaaGreatDoor
namespace Pl

/-- A pair: its key, its value. -/
structure Pr where
  key : List UInt8
  val : List UInt8
def psz (p : Pr) : Nat := 2 + p.key.length + p.val.length
def lsz (ps : List Pr) : Nat := 3 + (ps.map psz).sum
/-- Pages of pairs, and the keys between them: 'all' is the size of all of them in one page. -/
def lv (all : Nat) : List Pr → List Pr → Nat → List (List Pr) × List (List UInt8)
  | [], now, _ => ([now], [])
  | p :: r, now, size =>
    if (256 < size + psz p ∨ (256 < all ∧ all / 2 ≤ size)) ∧ now ≠ [] then (now :: (lv all r [p] (3 + psz p)).1, p.key :: (lv all r [p] (3 + psz p)).2)
    else lv all r (now ++ [p]) (size + psz p)
def leavesOf (ps : List Pr) : List (List Pr) × List (List UInt8) := lv (lsz ps) ps [] 3
theorem lv_flat (all : Nat) : ∀ (ps now : List Pr) (size : Nat), (lv all ps now size).1.flatten = now ++ ps
  | [], now, _ => by simp [lv]
  | p :: r, now, size => by
    unfold lv
    split
    · rw [List.flatten_cons, lv_flat all r]; simp
    · rw [lv_flat all r]; simp
theorem leavesOf_flat (ps : List Pr) : (leavesOf ps).1.flatten = ps := by unfold leavesOf; rw [lv_flat]; rfl
theorem lsz_snoc (ps : List Pr) (p : Pr) : lsz (ps ++ [p]) = lsz ps + psz p := by simp [lsz]; omega
theorem lv_small (all : Nat) : ∀ (ps now : List Pr) (size : Nat), size = lsz now → lsz now ≤ 256 → (∀ p ∈ ps, psz p ≤ 253) → ∀ pg ∈ (lv all ps now size).1, lsz pg ≤ 256
  | [], now, _, _, h2, _, pg, h => by simp [lv] at h; subst h; exact h2
  | p :: r, now, size, h1, h2, h3, pg, h => by
    have hp := h3 p (by simp)
    unfold lv at h
    split at h
    · rcases List.mem_cons.1 h with rfl | h
      · exact h2
      · exact lv_small all r [p] _ (by simp [lsz]) (by simp [lsz]; omega) (fun q hq => h3 q (by simp [hq])) pg h
    · next hc =>
      refine lv_small all r (now ++ [p]) _ (by rw [lsz_snoc, h1]) ?_ (fun q hq => h3 q (by simp [hq])) pg h
      rw [lsz_snoc]
      by_cases hn : now = []
      · subst hn; simp [lsz]; omega
      · have : ¬ (256 < size + psz p) := fun h => hc ⟨.inl h, hn⟩
        omega
theorem leavesOf_small {ps : List Pr} (h : ∀ p ∈ ps, psz p ≤ 253) : ∀ pg ∈ (leavesOf ps).1, lsz pg ≤ 256 := lv_small _ ps [] 3 rfl (by simp [lsz]) h
theorem lv_full (all : Nat) : ∀ (ps now : List Pr) (size : Nat), (now ≠ [] ∨ ps ≠ []) → ∀ pg ∈ (lv all ps now size).1, pg ≠ []
  | [], now, _, h, pg, hp => by
    simp [lv] at hp
    subst hp
    rcases h with h | h
    · exact h
    · exact absurd rfl h
  | p :: r, now, size, h, pg, hp => by
    unfold lv at hp
    split at hp
    · next hc =>
      rcases List.mem_cons.1 hp with rfl | hp
      · exact hc.2
      · exact lv_full all r [p] _ (.inl (by simp)) pg hp
    · exact lv_full all r (now ++ [p]) _ (.inl (by simp)) pg hp
theorem leavesOf_full {ps : List Pr} (h : ps ≠ []) : ∀ pg ∈ (leavesOf ps).1, pg ≠ [] := lv_full _ ps [] 3 (.inr h)
theorem lv_keys (all : Nat) : ∀ (ps now : List Pr) (size : Nat), (lv all ps now size).1.length = (lv all ps now size).2.length + 1
  | [], now, _ => by simp [lv]
  | p :: r, now, size => by
    unfold lv
    split
    · simp [lv_keys all r]
    · exact lv_keys all r _ _
/-- Each key between two pages is the first of the page behind it. -/
theorem lv_first (all : Nat) : ∀ (ps now : List Pr) (size k : Nat) (key : List UInt8), (lv all ps now size).2[k]? = some key → ∃ p r, (lv all ps now size).1[k + 1]? = some (p :: r) ∧ p.key = key
  | [], now, _, k, key, h => by simp [lv] at h
  | p :: r, now, size, k, key, h => by
    unfold lv at h ⊢
    split at h
    · next hc =>
      rw [if_pos hc]
      cases k with
      | zero =>
        have hk : p.key = key := by simpa using h
        obtain ⟨q, e⟩ : ∃ q, (lv all r [p] (3 + psz p)).1[0]? = some (p :: q) := lv_head all r [p] _ p [] rfl
        exact ⟨p, q, by simpa using e, hk⟩
      | succ k =>
        obtain ⟨q, t, e1, e2⟩ := lv_first all r [p] _ k key (by simpa using h)
        exact ⟨q, t, by simpa using e1, e2⟩
    · next hc =>
      rw [if_neg hc]
      exact lv_first all r (now ++ [p]) _ k key h
where
  lv_head (all : Nat) : ∀ (ps now : List Pr) (size : Nat) (p : Pr) (t : List Pr), now = p :: t → ∃ q, (lv all ps now size).1[0]? = some (p :: q)
    | [], now, _, p, t, h => by subst h; exact ⟨t, by simp [lv]⟩
    | x :: r, now, size, p, t, h => by
      unfold lv
      split
      · subst h; exact ⟨t, by simp⟩
      · exact lv_head all r (now ++ [x]) _ p (t ++ [x]) (by rw [h]; rfl)
/-- The size of an inner page with these keys. -/
def isz (ks : List (List UInt8)) : Nat := 6 + (ks.map fun k => 5 + k.length).sum
/-- Where an inner page that is too great is parted: the loop of inners. -/
def cut (all : Nat) : List (List UInt8) → Nat → Nat → Nat → Nat
  | [], _, _, at_ => at_
  | k :: r, i, half, at_ => if all / 2 ≤ half + (5 + k.length) then (if 0 < i then i else at_) else cut all r (i + 1) (half + (5 + k.length)) (if 0 < i then i else at_)
def cutAt (ks : List (List UInt8)) : Nat := cut (isz ks) ks.dropLast 0 0 1
/-- Inner pages of kids and the keys between them: one, or two. -/
def innersOf {α : Type} (ks : List (List UInt8)) (cs : List α) : List (List (List UInt8) × List α) × List (List UInt8) :=
  if isz ks ≤ 256 then ([(ks, cs)], []) else ([(ks.take (cutAt ks), cs.take (cutAt ks + 1)), (ks.drop (cutAt ks + 1), cs.drop (cutAt ks + 1))], (ks.drop (cutAt ks)).take 1)
/-- What the first keys weigh. -/
def csum (ks : List (List UInt8)) (c : Nat) : Nat := ((ks.take c).map fun k => 5 + k.length).sum
theorem csum_zero (ks : List (List UInt8)) : csum ks 0 = 0 := by simp [csum]
theorem csum_cons (k : List UInt8) (r : List (List UInt8)) (c : Nat) : csum (k :: r) (c + 1) = 5 + k.length + csum r c := by simp [csum]
theorem isz_csum (ks : List (List UInt8)) : isz ks = 6 + csum ks ks.length := by simp [isz, csum]
theorem csum_split (ks : List (List UInt8)) (c : Nat) : csum ks ks.length = csum ks c + ((ks.drop c).map fun k => 5 + k.length).sum := by
  unfold csum
  rw [List.take_length]
  conv => lhs; rw [← List.take_append_drop c ks]
  rw [List.map_append, List.sum_append]
theorem cut_spec (all : Nat) : ∀ (ks : List (List UInt8)) (i half at_ : Nat), half < all / 2 → (∃ j, j < ks.length ∧ all / 2 ≤ half + csum ks (j + 1)) → (0 < i ∨ half + csum ks 1 < all / 2) →
    ∃ j, j < ks.length ∧ cut all ks i half at_ = i + j ∧ half + csum ks j < all / 2 ∧ all / 2 ≤ half + csum ks (j + 1)
  | [], _, _, _, _, ⟨j, hj, _⟩, _ => by simp at hj
  | k :: r, i, half, at_, h1, ⟨j, hj, h2⟩, h3 => by
    have e1 : csum (k :: r) 1 = 5 + k.length := by rw [csum_cons, csum_zero, Nat.add_zero]
    unfold cut
    split
    · next h =>
      have hi : 0 < i := by rcases h3 with h3 | h3; exact h3; omega
      exact ⟨0, by simp, by rw [if_pos hi]; rfl, by rw [csum_zero]; exact h1, by rw [e1]; exact h⟩
    · next h =>
      obtain ⟨j', g1, g2, g3, g4⟩ := cut_spec all r (i + 1) (half + (5 + k.length)) (if 0 < i then i else at_) (by omega) (by
        cases j with
        | zero => rw [e1] at h2; omega
        | succ j => exact ⟨j, by simpa using hj, by rw [csum_cons] at h2; omega⟩) (.inl (by omega))
      exact ⟨j' + 1, by simpa using g1, by rw [g2]; omega, by rw [csum_cons]; omega, by rw [csum_cons]; omega⟩
/-- Parted pages are none too great, and each has a key. -/
theorem cutAt_spec {ks : List (List UInt8)} (hk : ∀ k ∈ ks, k.length ≤ 40) (h : 256 < isz ks) (h2 : isz ks ≤ 420) :
    1 ≤ cutAt ks ∧ cutAt ks + 1 < ks.length ∧ isz (ks.take (cutAt ks)) ≤ 256 ∧ isz (ks.drop (cutAt ks + 1)) ≤ 256 := by
  have hc : ∀ c, csum ks (c + 1) ≤ csum ks c + 45 := by
    intro c
    unfold csum
    rw [List.take_add_one, List.map_append, List.sum_append]
    cases hx : ks[c]? with
    | none => simp
    | some k => have := hk k (List.mem_of_getElem? hx); simp; omega
  have hall := isz_csum ks
  have b1 : csum ks 1 ≤ 45 := by have := hc 0; rw [csum_zero] at this; simpa using this
  have b2 : csum ks 2 ≤ 90 := by have h9 := hc 1; have : csum ks 2 ≤ csum ks 1 + 45 := h9; omega
  have hlen : 3 ≤ ks.length := by
    rcases Nat.lt_or_ge ks.length 3 with h9 | h9
    · have c0 := csum_zero ks
      have c1 := hc 0
      have c2 := hc 1
      have : csum ks ks.length ≤ 90 := by
        match hl : ks.length, h9 with
        | 0, _ => omega
        | 1, _ => omega
        | 2, _ => omega
      omega
    · exact h9
  have hdl : ks.dropLast.length = ks.length - 1 := List.length_dropLast
  have hcd : ∀ c, c ≤ ks.length - 1 → csum ks.dropLast c = csum ks c := by
    intro c hc
    unfold csum
    rw [List.dropLast_eq_take, List.take_take, Nat.min_eq_left hc]
  have hlast : csum ks ks.length ≤ csum ks (ks.length - 1) + 45 := by
    have := hc (ks.length - 1)
    rw [show ks.length - 1 + 1 = ks.length by omega] at this
    exact this
  have hl2 : csum ks (ks.length - 1) ≤ csum ks (ks.length - 2) + 45 := by
    have := hc (ks.length - 2)
    rw [show ks.length - 2 + 1 = ks.length - 1 by omega] at this
    exact this
  obtain ⟨j, g1, g2, g3, g4⟩ := cut_spec (isz ks) ks.dropLast 0 0 1 (by omega) ⟨ks.length - 2, by omega, by rw [hcd _ (by omega), show ks.length - 2 + 1 = ks.length - 1 by omega]; omega⟩ (.inr (by rw [hcd _ (by omega)]; omega))
  have hj : cutAt ks = j := by unfold cutAt; rw [g2, Nat.zero_add]
  rw [hcd _ (by omega)] at g3 g4
  rw [hj]
  have hj1 : 1 ≤ j := by
    cases j with
    | zero =>
      have b1' : csum ks (0 + 1) ≤ 45 := b1
      omega
    | succ j => omega
  refine ⟨hj1, by omega, ?_, ?_⟩
  · have : isz (ks.take j) = 6 + csum ks j := rfl
    omega
  · have h7 := csum_split ks (j + 1)
    have : isz (ks.drop (j + 1)) = 6 + ((ks.drop (j + 1)).map fun k => 5 + k.length).sum := rfl
    omega
end Pl
end Go.Proofs.YtljmklohgpaopaaGreatDoor

namespace Go.Proofs.YtljmklohgpaopaaGreatDoor
namespace Pl

/-- A tree of a height. -/
def Tr : Nat → Type
  | 0 => List Pr
  | h + 1 => List (List UInt8) × List (Tr h)
/-- Pages side by side, and the keys between them. -/
abbrev Row (h : Nat) := List (Tr h) × List (List UInt8)
def prs : (h : Nat) → Tr h → List Pr
  | 0, (ps : List Pr) => ps
  | h + 1, (n : List (List UInt8) × List (Tr h)) => n.2.flatMap (prs h)
def rowPrs (h : Nat) (r : Row h) : List Pr := r.1.flatMap (prs h)
def pgsz : (h : Nat) → Tr h → Nat
  | 0, (ps : List Pr) => lsz ps
  | h + 1, (n : List (List UInt8) × List (Tr h)) => isz n.1
def innerRow {h : Nat} (ks : List (List UInt8)) (cs : List (Tr h)) : Row (h + 1) := innersOf ks cs
def leafRow (ps : List Pr) : Row 0 := leavesOf ps
/-- Two pages that stood side by side. -/
def together : (h : Nat) → Tr h → List UInt8 → Tr h → Row h
  | 0, (a : List Pr), _, (b : List Pr) => leafRow (a ++ b)
  | _ + 1, a, key, b => innerRow (a.1 ++ key :: b.1) (a.2 ++ b.2)
theorem innersOf_flat {α : Type} (ks : List (List UInt8)) (cs : List α) : (innersOf ks cs).1.flatMap (·.2) = cs := by
  unfold innersOf
  split
  · simp
  · simp
theorem leafRow_prs (ps : List Pr) : rowPrs 0 (leafRow ps) = ps := by
  show (leavesOf ps).1.flatMap (fun x => x) = ps
  have := leavesOf_flat ps
  rw [← List.flatMap_id] at this
  exact this
theorem innerRow_prs {h : Nat} (ks : List (List UInt8)) (cs : List (Tr h)) : rowPrs (h + 1) (innerRow ks cs) = cs.flatMap (prs h) := by
  show (innersOf ks cs).1.flatMap (fun n => n.2.flatMap (prs h)) = _
  rw [← List.flatMap_assoc, innersOf_flat]
theorem together_prs : (h : Nat) → (a : Tr h) → (key : List UInt8) → (b : Tr h) → rowPrs h (together h a key b) = prs h a ++ prs h b
  | 0, a, _, b => leafRow_prs _
  | h + 1, a, key, b => by
    show rowPrs (h + 1) (innerRow _ _) = _
    rw [innerRow_prs, List.flatMap_append]; rfl
/-- Is a row one page, and small? -/
def lone {h : Nat} (r : Row h) : Option (Tr h) := match r.1 with
  | [pg] => if pgsz h pg < 85 then some pg else none
  | _ => none
/-- What takes the place of a kid: from which kid on, ahead of which, by what. -/
def spliced {h : Nat} (ks : List (List UInt8)) (cs : List (Tr h)) (i : Nat) (r : Row h) : Nat × Nat × Row h := match lone r with
  | none => (i, i + 1, r)
  | some pg => if 0 < i then
      match cs[i - 1]?, ks[i - 1]? with
      | some left, some key => (i - 1, i + 1, together h left key pg)
      | _, _ => (i, i + 1, r)
    else match cs[i + 1]?, ks[i]? with
      | some next, some key => (i, i + 2, together h pg key next)
      | _, _ => (i, i + 1, r)
def replaced {h : Nat} (ks : List (List UInt8)) (cs : List (Tr h)) (i : Nat) (r : Row h) : Row (h + 1) :=
  let s := spliced ks cs i r
  let keys := ks.take s.1 ++ s.2.2.2 ++ ks.drop (s.2.1 - 1)
  let kids := cs.take s.1 ++ s.2.2.1 ++ cs.drop s.2.1
  if keys = [] then ([(([] : List (List UInt8)), kids)], []) else innerRow keys kids
theorem lone_some {h : Nat} {r : Row h} {pg : Tr h} (hl : lone r = some pg) : r.1 = [pg] := by
  unfold lone at hl
  split at hl
  · next x hx =>
    split at hl
    · rw [hx]; injection hl with hl; rw [hl]
    · cases hl
  · cases hl
theorem spliced_prs {h : Nat} (ks : List (List UInt8)) (cs : List (Tr h)) (i : Nat) (r : Row h) (hi : i < cs.length) :
    (cs.take (spliced ks cs i r).1 ++ (spliced ks cs i r).2.2.1 ++ cs.drop (spliced ks cs i r).2.1).flatMap (prs h) = (cs.take i).flatMap (prs h) ++ rowPrs h r ++ (cs.drop (i + 1)).flatMap (prs h) := by
  have base : (cs.take i ++ r.1 ++ cs.drop (i + 1)).flatMap (prs h) = (cs.take i).flatMap (prs h) ++ rowPrs h r ++ (cs.drop (i + 1)).flatMap (prs h) := by
    rw [List.flatMap_append, List.flatMap_append]; rfl
  unfold spliced
  split
  · exact base
  · next pg hl =>
    have hr := lone_some hl
    split
    · next h0 =>
      split
      · next left key h1 h2 =>
        obtain ⟨j, rfl⟩ : ∃ j, i = j + 1 := ⟨i - 1, by omega⟩
        rw [Nat.add_sub_cancel] at h1
        have ht : cs.take (j + 1) = cs.take j ++ [left] := by rw [List.take_add_one, h1]; rfl
        show (cs.take (j + 1 - 1) ++ (together h left key pg).1 ++ cs.drop (j + 1 + 1)).flatMap (prs h) = _
        rw [Nat.add_sub_cancel, List.flatMap_append, List.flatMap_append, ht, List.flatMap_append]
        have := together_prs h left key pg
        unfold rowPrs at this ⊢
        rw [this, hr]
        simp
      · exact base
    · next h0 =>
      split
      · next next key h1 h2 =>
        obtain rfl : i = 0 := by omega
        have hd : cs.drop 1 = next :: cs.drop 2 := by
          obtain ⟨hlt, rfl⟩ := List.getElem?_eq_some_iff.1 h1
          rw [List.drop_eq_getElem_cons hlt]
        show (cs.take 0 ++ (together h pg key next).1 ++ cs.drop 2).flatMap (prs h) = _
        rw [List.flatMap_append, List.flatMap_append, show (0 : Nat) + 1 = 1 from rfl, hd, List.flatMap_cons]
        have := together_prs h pg key next
        unfold rowPrs at this ⊢
        rw [this, hr]
        simp
      · exact base
theorem replaced_prs {h : Nat} (ks : List (List UInt8)) (cs : List (Tr h)) (i : Nat) (r : Row h) (hi : i < cs.length) :
    rowPrs (h + 1) (replaced ks cs i r) = (cs.take i).flatMap (prs h) ++ rowPrs h r ++ (cs.drop (i + 1)).flatMap (prs h) := by
  rw [← spliced_prs ks cs i r hi]
  unfold replaced
  dsimp only
  split
  · show [_].flatMap (fun n : List (List UInt8) × List (Tr h) => n.2.flatMap (prs h)) = _
    simp
  · exact innerRow_prs _ _
/-- Where a key lies in a leaf, or would; the kid in which it lies. -/
def placeOf (ps : List Pr) (k : List UInt8) : Nat := (ps.takeWhile fun p => decide (p.key < k)).length
def wayOf (ks : List (List UInt8)) (k : List UInt8) : Nat := (ks.takeWhile fun x => !decide (k < x)).length
def putL (k v : List UInt8) (ps : List Pr) : List Pr :=
  ps.take (placeOf ps k) ++ ⟨k, v⟩ :: ps.drop (match ps[placeOf ps k]? with | some p => if p.key = k then placeOf ps k + 1 else placeOf ps k | none => placeOf ps k)
/-- The leaf in which a key lies. -/
def leafOf : (h : Nat) → Tr h → List UInt8 → List Pr
  | 0, (ps : List Pr), _ => ps
  | h + 1, (n : List (List UInt8) × List (Tr h)), k => match n.2[wayOf n.1 k]? with
    | some t => leafOf h t k
    | none => []
/-- The pages that take the place of one, where the leaf of a key becomes another. -/
def changed (f : List Pr → List Pr) (k : List UInt8) : (h : Nat) → Tr h → Row h
  | 0, (ps : List Pr) => leafRow (f ps)
  | h + 1, (n : List (List UInt8) × List (Tr h)) => match n.2[wayOf n.1 k]? with
    | some t => replaced n.1 n.2 (wayOf n.1 k) (changed f k h t)
    | none => ([], [])
theorem leafOf_kid {h : Nat} {n : List (List UInt8) × List (Tr h)} {k : List UInt8} {t : Tr h} (ht : n.2[wayOf n.1 k]? = some t) : leafOf (h + 1) n k = leafOf h t k := by
  show (match n.2[wayOf n.1 k]? with | some t => leafOf h t k | none => []) = _
  rw [ht]
theorem changed_kid {h : Nat} {n : List (List UInt8) × List (Tr h)} {f : List Pr → List Pr} {k : List UInt8} {t : Tr h} (ht : n.2[wayOf n.1 k]? = some t) : changed f k (h + 1) n = replaced n.1 n.2 (wayOf n.1 k) (changed f k h t) := by
  show (match n.2[wayOf n.1 k]? with | some t => replaced n.1 n.2 (wayOf n.1 k) (changed f k h t) | none => ([], [])) = _
  rw [ht]
theorem wayOf_le (ks : List (List UInt8)) (k : List UInt8) : wayOf ks k ≤ ks.length := by
  unfold wayOf
  exact (List.takeWhile_sublist _).length_le
/-- Inner pages have a kid more than keys. -/
def Kids : (h : Nat) → Tr h → Prop
  | 0, _ => True
  | h + 1, (n : List (List UInt8) × List (Tr h)) => n.2.length = n.1.length + 1 ∧ ∀ t ∈ n.2, Kids h t
end Pl
end Go.Proofs.YtljmklohgpaopaaGreatDoor

namespace Go.Proofs.YtljmklohgpaopaaGreatDoor
namespace Pl

def KeyFit (k : List UInt8) : Prop := 1 ≤ k.length ∧ k.length ≤ 40
def PrFit (p : Pr) : Prop := KeyFit p.key ∧ p.val.length ≤ 100
/-- A page that may be saved, and all below it. -/
def Fit : (h : Nat) → Tr h → Prop
  | 0, (ps : List Pr) => lsz ps ≤ 256 ∧ ps ≠ [] ∧ ∀ p ∈ ps, PrFit p
  | h + 1, (n : List (List UInt8) × List (Tr h)) => n.2.length = n.1.length + 1 ∧ n.1 ≠ [] ∧ isz n.1 ≤ 256 ∧ (∀ k ∈ n.1, KeyFit k) ∧ ∀ t ∈ n.2, Fit h t
/-- Pages side by side that may be saved. -/
def RowFit (h : Nat) (r : Row h) : Prop := r.1.length = r.2.length + 1 ∧ (∀ k ∈ r.2, KeyFit k) ∧ ∀ t ∈ r.1, Fit h t
theorem PrFit.size {p : Pr} (h : PrFit p) : psz p ≤ 253 := by
  obtain ⟨⟨_, h1⟩, h2⟩ := h
  unfold psz
  omega
theorem leafRow_fit {ps : List Pr} (h : ∀ p ∈ ps, PrFit p) (h0 : ps ≠ []) : RowFit 0 (leafRow ps) := by
  have hmem : ∀ pg ∈ (leavesOf ps).1, ∀ p ∈ pg, p ∈ ps := fun pg hpg p hp => by
    rw [← leavesOf_flat ps]
    exact List.mem_flatten.2 ⟨pg, hpg, hp⟩
  refine ⟨lv_keys _ _ _ _, fun k hk => ?_, fun t ht => ⟨leavesOf_small (fun p hp => (h p hp).size) t ht, leavesOf_full h0 t ht, fun p hp => h p (hmem t ht p hp)⟩⟩
  obtain ⟨i, hi⟩ := List.mem_iff_getElem?.1 hk
  obtain ⟨p, r, h1, h2⟩ := lv_first _ _ _ _ i k hi
  rw [← h2]
  exact (h p (hmem (p :: r) (List.mem_of_getElem? h1) p (by simp))).1
theorem innerRow_fit {h : Nat} {ks : List (List UInt8)} {cs : List (Tr h)} (hl : cs.length = ks.length + 1) (h0 : ks ≠ []) (hk : ∀ k ∈ ks, KeyFit k) (hc : ∀ t ∈ cs, Fit h t) (hs : isz ks ≤ 420) : RowFit (h + 1) (innerRow ks cs) := by
  unfold innerRow innersOf
  split
  · next h1 =>
    refine ⟨rfl, by simp, fun t ht => ?_⟩
    obtain rfl : t = (ks, cs) := List.mem_singleton.1 ht
    exact ⟨hl, h0, h1, hk, hc⟩
  · next h1 =>
    obtain ⟨g1, g2, g3, g4⟩ := cutAt_spec (fun k hk' => (hk k hk').2) (by omega) hs
    refine ⟨?_, fun k hk' => hk k (List.mem_of_mem_drop (List.mem_of_mem_take hk')), fun t ht => ?_⟩
    · show 2 = ((ks.drop (cutAt ks)).take 1).length + 1
      rw [List.length_take, List.length_drop]; omega
    · have ht' : t = (ks.take (cutAt ks), cs.take (cutAt ks + 1)) ∨ t = (ks.drop (cutAt ks + 1), cs.drop (cutAt ks + 1)) := by
        rcases List.mem_cons.1 ht with e | ht
        · exact .inl e
        · exact .inr (List.mem_singleton.1 ht)
      rcases ht' with rfl | rfl
      · refine ⟨by simp; omega, fun e => ?_, g3, fun k hk' => hk k (List.mem_of_mem_take hk'), fun t ht => hc t (List.mem_of_mem_take ht)⟩
        have e' : ks.take (cutAt ks) = [] := e
        rw [List.take_eq_nil_iff] at e'
        rcases e' with e' | e'
        · omega
        · exact h0 e'
      · refine ⟨by simp; omega, fun e => ?_, g4, fun k hk' => hk k (List.mem_of_mem_drop hk'), fun t ht => hc t (List.mem_of_mem_drop ht)⟩
        have e' : ks.drop (cutAt ks + 1) = [] := e
        rw [List.drop_eq_nil_iff] at e'
        omega
/-- One page with one kid and no key, or with no pair: it lasts till the page above, or the root, takes it up. -/
def OneKid : (h : Nat) → Tr h → Prop
  | 0, (ps : List Pr) => ps = []
  | h + 1, (n : List (List UInt8) × List (Tr h)) => n.1 = [] ∧ ∃ t, n.2 = [t] ∧ Fit h t
/-- What becomes of a page. -/
def Becomes (h : Nat) (r : Row h) : Prop := RowFit h r ∨ (r.2 = [] ∧ ∃ t, r.1 = [t] ∧ OneKid h t)
theorem isz_append (a b : List (List UInt8)) : isz (a ++ b) + 6 = isz a + isz b := by simp [isz]; omega
theorem isz_cons (k : List UInt8) (b : List (List UInt8)) : isz (k :: b) = isz b + (5 + k.length) := by simp [isz]; omega
/-- A small page, fit or with one kid. -/
def Half (h : Nat) (t : Tr h) : Prop := Fit h t ∨ OneKid h t
theorem Half.inner {h : Nat} {n : List (List UInt8) × List (Tr h)} (hn : Half (h + 1) n) : n.2.length = n.1.length + 1 ∧ isz n.1 ≤ 256 ∧ (∀ k ∈ n.1, KeyFit k) ∧ ∀ t ∈ n.2, Fit h t := by
  rcases hn with ⟨h1, h2, h3, h4, h5⟩ | ⟨h1, t, h2, h3⟩
  · exact ⟨h1, h3, h4, h5⟩
  · refine ⟨by rw [h1, h2]; rfl, by rw [h1]; decide, (by rw [h1]; intro k hk; cases hk), by rw [h2]; intro x hx; rw [List.mem_singleton.1 hx]; exact h3⟩
theorem Half.leaf {ps : List Pr} (h : Half 0 ps) : ∀ p ∈ ps, PrFit p := by
  rcases h with ⟨_, _, h⟩ | h
  · exact h
  · have h' : ps = [] := h
    rw [h']; intro p hp; cases hp
theorem together_fit : (h : Nat) → (a : Tr h) → (key : List UInt8) → (b : Tr h) → Half h a → Half h b → (Fit h a ∨ Fit h b) → KeyFit key → pgsz h a + pgsz h b ≤ 256 + 85 → RowFit h (together h a key b)
  | 0, a, _, b, ha, hb, hab, _, _ => by
    refine leafRow_fit (fun p hp => ?_) (fun e => ?_)
    · rcases List.mem_append.1 hp with hp | hp
      · exact ha.leaf p hp
      · exact hb.leaf p hp
    · obtain ⟨e1, e2⟩ := List.append_eq_nil_iff.1 e
      rcases hab with hab | hab
      · exact hab.2.1 e1
      · exact hab.2.1 e2
  | h + 1, a, key, b, ha, hb, _, hk, hs => by
    obtain ⟨a1, a2, a3, a4⟩ := ha.inner
    obtain ⟨b1, b2, b3, b4⟩ := hb.inner
    have e1 := isz_append a.1 (key :: b.1)
    rw [isz_cons] at e1
    have hs' : isz a.1 + isz b.1 ≤ 256 + 85 := hs
    refine innerRow_fit (by rw [List.length_append, List.length_append, List.length_cons]; omega) (by simp) (fun k hk' => ?_) (fun t ht => ?_) (by have := hk.2; omega)
    · rcases List.mem_append.1 hk' with hk' | hk'
      · exact a3 k hk'
      · rcases List.mem_cons.1 hk' with rfl | hk'
        · exact hk
        · exact b3 k hk'
    · rcases List.mem_append.1 ht with ht | ht
      · exact a4 t ht
      · exact b4 t ht
def pwt (ps : List Pr) : Nat := (ps.map psz).sum
theorem lsz_pwt (ps : List Pr) : lsz ps = 3 + pwt ps := rfl
/-- A page that is closed weighs something, so there are few. -/
theorem lv_count (all : Nat) (ha : 256 < all) : ∀ (ps now : List Pr) (size : Nat), size = lsz now → (∀ p ∈ ps, psz p ≤ 142) → (lv all ps now size).2.length * 112 ≤ pwt now + pwt ps
  | [], now, _, _, _ => by simp [lv]
  | p :: r, now, size, h1, h2 => by
    have hp := h2 p (by simp)
    have hw : pwt (p :: r) = psz p + pwt r := by simp [pwt]
    unfold lv
    split
    · next hc =>
      have ih := lv_count all ha r [p] (3 + psz p) (by simp [lsz]) (fun q hq => h2 q (by simp [hq]))
      have hp1 : pwt [p] = psz p := by simp [pwt]
      have hn : 112 ≤ pwt now := by
        have := lsz_pwt now
        rcases hc.1 with h | ⟨_, h⟩ <;> omega
      rw [List.length_cons, Nat.add_mul]
      omega
    · have ih := lv_count all ha r (now ++ [p]) (size + psz p) (by rw [lsz_snoc, h1]) (fun q hq => h2 q (by simp [hq]))
      have : pwt (now ++ [p]) = pwt now + psz p := by simp [pwt]
      omega
theorem PrFit.size' {p : Pr} (h : PrFit p) : psz p ≤ 142 := by
  obtain ⟨⟨_, h1⟩, h2⟩ := h
  unfold psz
  omega
theorem lv_one (all : Nat) (ha : all ≤ 256) : ∀ (ps now : List Pr) (size : Nat), size + pwt ps ≤ 256 → (lv all ps now size).2 = []
  | [], now, _, _ => by simp [lv]
  | p :: r, now, size, h => by
    have hw : pwt (p :: r) = psz p + pwt r := by simp [pwt]
    unfold lv
    rw [if_neg (fun hc => by rcases hc.1 with h9 | ⟨h9, _⟩ <;> omega)]
    exact lv_one all ha r (now ++ [p]) _ (by omega)
theorem leavesOf_few {ps : List Pr} (h : ∀ p ∈ ps, PrFit p) (hs : lsz ps ≤ 400) : (leavesOf ps).2.length ≤ 3 := by
  unfold leavesOf
  have hw := lsz_pwt ps
  by_cases ha : lsz ps ≤ 256
  · rw [lv_one _ ha ps [] 3 (by omega)]; simp
  · have := lv_count (lsz ps) (by omega) ps [] 3 rfl (fun p hp => (h p hp).size')
    have h0 : pwt ([] : List Pr) = 0 := rfl
    omega
theorem innersOf_few {α : Type} (ks : List (List UInt8)) (cs : List α) : (innersOf ks cs).2.length ≤ 1 := by
  unfold innersOf
  split
  · simp
  · show ((ks.drop (cutAt ks)).take 1).length ≤ 1
    rw [List.length_take]; omega
theorem isz_few {ks : List (List UInt8)} (h : ∀ k ∈ ks, KeyFit k) : isz ks ≤ 6 + 45 * ks.length := by
  induction ks with
  | nil => decide
  | cons k r ih =>
    have := ih (fun x hx => h x (by simp [hx]))
    have hk := (h k (by simp)).2
    rw [isz_cons, List.length_cons]
    omega
/-- Kids and keys of an inner page, some of them replaced by a row. -/
theorem splice_fit {h a b : Nat} {ks : List (List UInt8)} {cs : List (Tr h)} {r : Row h} (hn : Fit (h + 1) (ks, cs)) (hr : RowFit h r) (hc : r.2.length ≤ 3) (hab : a + 1 ≤ b) (hb : b ≤ cs.length) :
    Becomes (h + 1) (if ks.take a ++ r.2 ++ ks.drop (b - 1) = [] then ([(([] : List (List UInt8)), cs.take a ++ r.1 ++ cs.drop b)], []) else innerRow (ks.take a ++ r.2 ++ ks.drop (b - 1)) (cs.take a ++ r.1 ++ cs.drop b)) := by
  obtain ⟨h1, h2, h3, h4, h5⟩ := hn
  obtain ⟨r1, r2, r3⟩ := hr
  dsimp only at h1 h2 h3 h4 h5
  have hkids : ∀ t ∈ cs.take a ++ r.1 ++ cs.drop b, Fit h t := by
    intro t ht
    rcases List.mem_append.1 ht with ht | ht
    · rcases List.mem_append.1 ht with ht | ht
      · exact h5 t (List.mem_of_mem_take ht)
      · exact r3 t ht
    · exact h5 t (List.mem_of_mem_drop ht)
  have hlen : (cs.take a ++ r.1 ++ cs.drop b).length = (ks.take a ++ r.2 ++ ks.drop (b - 1)).length + 1 := by
    simp only [List.length_append, List.length_take, List.length_drop]
    omega
  split
  · next he =>
    refine .inr ⟨rfl, _, rfl, rfl, ?_⟩
    rw [he] at hlen
    obtain ⟨t, ht⟩ := List.length_eq_one_iff.1 hlen
    exact ⟨t, ht, hkids t (by rw [ht]; simp)⟩
  · next he =>
    refine .inl (innerRow_fit hlen he (fun k hk => ?_) hkids ?_)
    · rcases List.mem_append.1 hk with hk | hk
      · rcases List.mem_append.1 hk with hk | hk
        · exact h4 k (List.mem_of_mem_take hk)
        · exact r2 k hk
      · exact h4 k (List.mem_of_mem_drop hk)
    · have e1 := isz_append (ks.take a ++ r.2) (ks.drop (b - 1))
      have e2 := isz_append (ks.take a) r.2
      have e3 := isz_few r2
      have e4 := isz_append (ks.take a) (ks.drop a)
      rw [List.take_append_drop] at e4
      have e5 : isz (ks.drop (b - 1)) ≤ isz (ks.drop a) := by
        have e6 := isz_append ((ks.drop a).take (b - 1 - a)) ((ks.drop a).drop (b - 1 - a))
        rw [List.take_append_drop, List.drop_drop, show a + (b - 1 - a) = b - 1 by omega] at e6
        have : 6 ≤ isz ((ks.drop a).take (b - 1 - a)) := by unfold isz; omega
        omega
      omega
theorem together_few : (h : Nat) → (a : Tr h) → (key : List UInt8) → (b : Tr h) → Half h a → Half h b → pgsz h a + pgsz h b ≤ 256 + 85 → (together h a key b).2.length ≤ 3
  | 0, a, _, b, ha, hb, hs => by
    refine leavesOf_few (fun p hp => ?_) ?_
    · rcases List.mem_append.1 hp with hp | hp
      · exact ha.leaf p hp
      · exact hb.leaf p hp
    · have e : ∀ x y : List Pr, lsz (x ++ y) + 3 = lsz x + lsz y := fun x y => by simp [lsz]; omega
      have e' := e a b
      have hs' : lsz a + lsz b ≤ 256 + 85 := hs
      exact Nat.le_trans (show lsz (List.append a b) ≤ 341 from by have e'' : lsz (List.append a b) + 3 = lsz a + lsz b := e'; omega) (by omega)
  | h + 1, a, key, b, _, _, _ => Nat.le_trans (innersOf_few _ _) (by omega)
theorem Fit.size : (h : Nat) → (t : Tr h) → Fit h t → pgsz h t ≤ 256
  | 0, _, h => h.1
  | _ + 1, _, h => h.2.2.1
theorem OneKid.small : (h : Nat) → (t : Tr h) → OneKid h t → pgsz h t < 85
  | 0, ps, h => by
    show lsz ps < 85
    have h' : ps = [] := h
    rw [h']; decide
  | _ + 1, t, h => by
    show isz t.1 < 85
    rw [h.1]; decide
/-- The root: a leaf may have no pair. -/
def RFit : (h : Nat) → Tr h → Prop
  | 0, (ps : List Pr) => lsz ps ≤ 256 ∧ ∀ p ∈ ps, PrFit p
  | h + 1, n => Fit (h + 1) n
theorem Fit.root : (h : Nat) → (t : Tr h) → Fit h t → RFit h t
  | 0, _, h => ⟨h.1, h.2.2⟩
  | _ + 1, _, h => h
/-- What becomes of a page whose kid became others. -/
theorem replaced_fit {h i : Nat} {ks : List (List UInt8)} {cs : List (Tr h)} {r : Row h} (hn : Fit (h + 1) (ks, cs)) (hi : i ≤ ks.length) (hr : Becomes h r) (hc : r.2.length ≤ 3) : Becomes (h + 1) (replaced ks cs i r) ∧ (replaced ks cs i r).2.length ≤ 3 := by
  have hcs : cs.length = ks.length + 1 := hn.1
  have few : (replaced ks cs i r).2.length ≤ 3 := by
    unfold replaced
    dsimp only
    split
    · simp
    · exact Nat.le_trans (innersOf_few _ _) (by omega)
  refine ⟨?_, few⟩
  have hpg : ∀ pg, lone r = some pg → Half h pg ∧ pgsz h pg < 85 := by
    intro pg hl
    have h1 := lone_some hl
    refine ⟨?_, ?_⟩
    · rcases hr with hr | ⟨_, t, ht, ho⟩
      · exact .inl (hr.2.2 pg (by rw [h1]; simp))
      · rw [h1] at ht
        injection ht with ht
        subst ht
        exact .inr ho
    · unfold lone at hl
      split at hl
      · next x hx =>
        split at hl
        · next hlt => injection hl with hl; subst hl; exact hlt
        · cases hl
      · cases hl
  have hnone : lone r = none → RowFit h r := by
    intro hl
    rcases hr with hr | ⟨_, t, ht, ho⟩
    · exact hr
    · exfalso
      unfold lone at hl
      rw [ht] at hl
      have := OneKid.small h t ho
      simp only at hl
      rw [if_pos (by omega)] at hl
      cases hl
  unfold replaced spliced
  cases hl : lone r with
  | none => exact splice_fit hn (hnone hl) hc (Nat.le_refl _) (by show i + 1 ≤ cs.length; omega)
  | some pg =>
    obtain ⟨hh, hs⟩ := hpg pg hl
    dsimp only
    by_cases h0 : 0 < i
    · obtain ⟨left, h1⟩ : ∃ x, cs[i - 1]? = some x := ⟨_, List.getElem?_eq_getElem (by omega)⟩
      obtain ⟨key, h2⟩ : ∃ x, ks[i - 1]? = some x := ⟨_, List.getElem?_eq_getElem (by omega)⟩
      have hlf : Fit h left := hn.2.2.2.2 left (List.mem_of_getElem? h1)
      have hkf : KeyFit key := hn.2.2.2.1 key (List.mem_of_getElem? h2)
      have hsz := Fit.size h left hlf
      rw [if_pos h0, h1, h2]
      exact splice_fit hn (together_fit h left key pg (.inl hlf) hh (.inl hlf) hkf (by omega)) (together_few h left key pg (.inl hlf) hh (by omega)) (by dsimp only; omega) (by dsimp only; omega)
    · obtain rfl : i = 0 := by omega
      have hks : 0 < ks.length := List.length_pos_iff.2 hn.2.1
      obtain ⟨nx, h1⟩ : ∃ x, cs[0 + 1]? = some x := ⟨_, List.getElem?_eq_getElem (by omega)⟩
      obtain ⟨key, h2⟩ : ∃ x, ks[0]? = some x := ⟨_, List.getElem?_eq_getElem hks⟩
      have hlf : Fit h nx := hn.2.2.2.2 nx (List.mem_of_getElem? h1)
      have hkf : KeyFit key := hn.2.2.2.1 key (List.mem_of_getElem? h2)
      have hsz := Fit.size h nx hlf
      rw [if_neg h0, h1, h2]
      exact splice_fit hn (together_fit h pg key nx hh (.inl hlf) (.inr hlf) hkf (by omega)) (together_few h pg key nx hh (.inl hlf) (by omega)) (by dsimp only; omega) (by dsimp only; omega)
/-- What becomes of a tree whose leaf becomes another. -/
theorem changed_fit {f : List Pr → List Pr} (k : List UInt8) (hf : ∀ ps : List Pr, RFit 0 ps → (∀ p ∈ f ps, PrFit p) ∧ lsz (f ps) ≤ 400) : (h : Nat) → (t : Tr h) → RFit h t → Becomes h (changed f k h t) ∧ (changed f k h t).2.length ≤ 3
  | 0, ps, ht => by
    obtain ⟨h1, h3⟩ := hf ps ht
    refine ⟨?_, leavesOf_few h1 h3⟩
    by_cases h2 : f ps = []
    · refine .inr ?_
      show (leavesOf (f ps)).2 = [] ∧ ∃ t, (leavesOf (f ps)).1 = [t] ∧ t = []
      rw [h2]
      exact ⟨rfl, [], rfl, rfl⟩
    · exact .inl (leafRow_fit h1 h2)
  | h + 1, n, ht => by
    have hw := wayOf_le n.1 k
    have hl : n.2.length = n.1.length + 1 := ht.1
    obtain ⟨t, hk⟩ : ∃ t, n.2[wayOf n.1 k]? = some t := ⟨_, List.getElem?_eq_getElem (by omega)⟩
    obtain ⟨h1, h2⟩ := changed_fit k hf h t (Fit.root h t (ht.2.2.2.2 t (List.mem_of_getElem? hk)))
    rw [changed_kid hk]
    exact replaced_fit ht hw h1 h2
end Pl
end Go.Proofs.YtljmklohgpaopaaGreatDoor
