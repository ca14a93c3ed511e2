/- Plain: a tree is a list of pairs in order: what Put and Delete make of it. No program in sight. Plain: a page's text. No program in sight. Only these blocks have changed: laws over any program. The walks of the reference's Path and Deep, and of sums.Depth. The walks of sums.path and Path. The walk of the reference's Climb. The walks of sums.climb and Climb. The walk of sums.Climb. -/
import Derived.Test.YtljmklohgpaopaaGreatDoorMgLean3
import Derived.Test.YtljmklohgpaopaaGreatDoorMgLean2
import Derived.Test.YtljmklohgpaopaaGreatDoorMgLean1
set_option linter.unusedVariables false
set_option linter.unusedSimpArgs false

namespace Go.Proofs.YtljmklohgpaopaaGreatDoor
namespace Pl

theorem SpnK.key_at {α : Type} {P : Key → Option Key → α → Prop} {hi : Option Key} : ∀ {ks : List Key} {cs : List α} {lo : Key} (j : Nat) (k : Key), SpnK P lo hi ks cs → ks[j]? = some k → kLo lo ks j < k ∧ Below_ (kHi hi ks (j + 1)) k
  | [], _, _, _, _, _, hk => by simp at hk
  | _ :: _, [], _, _, _, h, _ => h.elim
  | x :: ks, c :: cs, lo, 0, k, h, hk => by
    obtain rfl : x = k := by simpa using hk
    refine ⟨by rw [kLo_zero]; exact h.1, fun y hy => ?_⟩
    cases ks with
    | nil => exact h.2.1 y hy
    | cons z ks =>
      obtain rfl : z = y := by simpa [kHi] using hy
      exact (h.2.2.2.keys.2 z (by simp)).1
  | x :: ks, c :: cs, lo, j + 1, k, h, hk => by
    have := SpnK.key_at j k h.2.2.2 (by simpa using hk)
    have e : kHi hi (x :: ks) (j + 1 + 1) = kHi hi ks (j + 1) := by unfold kHi; simp
    rw [e]
    exact this
theorem splice_keys {h a b : Nat} {ks : List Key} {cs : List (Tr h)} {r : Row h} (hn : Fit (h + 1) (ks, cs)) (hr : RowFit h r) (hc : r.2.length ≤ 3) (hab : a + 1 ≤ b) :
    (∀ k ∈ ks.take a ++ r.2 ++ ks.drop (b - 1), KeyFit k) ∧ isz (ks.take a ++ r.2 ++ ks.drop (b - 1)) ≤ 420 := by
  obtain ⟨h1, h2, h3, h4, h5⟩ := hn
  obtain ⟨r1, r2, r3⟩ := hr
  dsimp only at h1 h2 h3 h4 h5
  refine ⟨fun k hk => ?_, ?_⟩
  · rcases List.mem_append.1 hk with hk | hk
    · rcases List.mem_append.1 hk with hk | hk
      · exact h4 k (List.mem_of_mem_take hk)
      · exact r2 k hk
    · exact h4 k (List.mem_of_mem_drop hk)
  · have e1 := isz_append (ks.take a ++ r.2) (ks.drop (b - 1))
    have e2 := isz_append (ks.take a) r.2
    have e3 := isz_few r2
    have e4 := isz_append (ks.take a) (ks.drop a)
    rw [List.take_append_drop] at e4
    have e5 : isz (ks.drop (b - 1)) ≤ isz (ks.drop a) := by
      have e6 := isz_append ((ks.drop a).take (b - 1 - a)) ((ks.drop a).drop (b - 1 - a))
      rw [List.take_append_drop, List.drop_drop, show a + (b - 1 - a) = b - 1 by omega] at e6
      have : 6 ≤ isz ((ks.drop a).take (b - 1 - a)) := by unfold isz; omega
      omega
    omega
theorem splice_spn {h a b : Nat} {lo : Key} {hi : Option Key} {ks : List Key} {cs : List (Tr h)} {r : Row h} (hn : Fit (h + 1) (ks, cs)) (hr : RowFit h r) (hc : r.2.length ≤ 3) (hab : a + 1 ≤ b) (hb : b ≤ cs.length)
    (hs : SpnK (Spn h) lo hi ks cs) (hrs : RSpn (kLo lo ks a) (kHi hi ks (b - 1)) r) :
    RSpn lo hi (if ks.take a ++ r.2 ++ ks.drop (b - 1) = [] then (([(([] : List Key), cs.take a ++ r.1 ++ cs.drop b)], []) : Row (h + 1)) else innerRow (ks.take a ++ r.2 ++ ks.drop (b - 1)) (cs.take a ++ r.1 ++ cs.drop b)) := by
  have h1 := hs.splice a b (by omega) hb hrs
  split
  · next he => rw [he] at h1; exact h1
  · next he => exact innerRow_spn (splice_keys hn hr hc hab).1 (splice_keys hn hr hc hab).2 h1
theorem lone_small {h : Nat} {r : Row h} {pg : Tr h} (hr : Becomes h r) (hl : lone r = some pg) : Half h pg ∧ pgsz h pg < 85 := by
  have h1 := lone_some hl
  refine ⟨?_, ?_⟩
  · rcases hr with hr | ⟨_, t, ht, ho⟩
    · exact .inl (hr.2.2 pg (by rw [h1]; simp))
    · rw [h1] at ht
      injection ht with ht
      subst ht
      exact .inr ho
  · unfold lone at hl
    split at hl
    · next x hx =>
      split at hl
      · next hlt => injection hl with hl; subst hl; exact hlt
      · cases hl
    · cases hl
theorem lone_none {h : Nat} {r : Row h} (hr : Becomes h r) (hl : lone r = none) : RowFit h r := by
  rcases hr with hr | ⟨_, t, ht, ho⟩
  · exact hr
  · exfalso
    unfold lone at hl
    rw [ht] at hl
    have := OneKid.small h t ho
    simp only at hl
    rw [if_pos (by omega)] at hl
    cases hl
theorem lone_key {h : Nat} {r : Row h} {pg : Tr h} {lo : Key} {hi : Option Key} (hs : RSpn lo hi r) (hl : lone r = some pg) : Spn h lo hi pg := by
  have h1 := lone_some hl
  unfold RSpn at hs
  rw [h1] at hs
  have : r.2 = [] := by
    cases hr2 : r.2 with
    | nil => rfl
    | cons a b => have := hs.len; rw [hr2] at this; simp at this
  rw [this] at hs
  exact hs
theorem replaced_spn {h i : Nat} {lo : Key} {hi : Option Key} {ks : List Key} {cs : List (Tr h)} {r : Row h} (hn : Fit (h + 1) (ks, cs)) (hik : i ≤ ks.length) (hr : Becomes h r) (hc : r.2.length ≤ 3)
    (hs : SpnK (Spn h) lo hi ks cs) (hrs : RSpn (kLo lo ks i) (kHi hi ks i) r) : RSpn lo hi (replaced ks cs i r) := by
  have hcs : cs.length = ks.length + 1 := hn.1
  unfold replaced spliced
  cases hl : lone r with
  | none => exact splice_spn hn (lone_none hr hl) hc (Nat.le_refl _) (by show i + 1 ≤ cs.length; omega) hs hrs
  | some pg =>
    obtain ⟨hh, hsz⟩ := lone_small hr hl
    have hpg := lone_key hrs hl
    dsimp only
    by_cases h0 : 0 < i
    · obtain ⟨j, rfl⟩ : ∃ j, i = j + 1 := ⟨i - 1, by omega⟩
      obtain ⟨left, h1⟩ : ∃ x, cs[j]? = some x := ⟨_, List.getElem?_eq_getElem (by omega)⟩
      obtain ⟨key, h2⟩ : ∃ x, ks[j]? = some x := ⟨_, List.getElem?_eq_getElem (by omega)⟩
      have hlf : Fit h left := hn.2.2.2.2 left (List.mem_of_getElem? h1)
      have hkf : KeyFit key := hn.2.2.2.1 key (List.mem_of_getElem? h2)
      have hsl := Fit.size h left hlf
      have hsp := hs.at_ j left h1
      rw [kHi_get h2] at hsp
      rw [kLo_get h2] at hpg
      obtain ⟨q1, q2⟩ := hs.key_at j key h2
      rw [if_pos h0, Nat.add_sub_cancel, h1, h2]
      exact splice_spn hn (together_fit h left key pg (.inl hlf) hh (.inl hlf) hkf (by omega)) (together_few h left key pg (.inl hlf) hh (by omega)) (by dsimp only; omega) (by dsimp only; omega) hs
        (together_spn h left key pg (.inl hlf) hh hkf (by omega) hsp hpg q1 q2)
    · obtain rfl : i = 0 := by omega
      have hks : 0 < ks.length := List.length_pos_iff.2 hn.2.1
      obtain ⟨nx, h1⟩ : ∃ x, cs[0 + 1]? = some x := ⟨_, List.getElem?_eq_getElem (by omega)⟩
      obtain ⟨key, h2⟩ : ∃ x, ks[0]? = some x := ⟨_, List.getElem?_eq_getElem hks⟩
      have hlf : Fit h nx := hn.2.2.2.2 nx (List.mem_of_getElem? h1)
      have hkf : KeyFit key := hn.2.2.2.1 key (List.mem_of_getElem? h2)
      have hsl := Fit.size h nx hlf
      have hsp := hs.at_ 1 nx h1
      rw [kLo_get h2] at hsp
      rw [kHi_get h2] at hpg
      obtain ⟨q1, q2⟩ := hs.key_at 0 key h2
      rw [if_neg h0, h1, h2]
      exact splice_spn hn (together_fit h pg key nx hh (.inl hlf) (.inr hlf) hkf (by omega)) (together_few h pg key nx hh (.inl hlf) (by omega)) (by dsimp only; omega) (by dsimp only; omega) hs
        (together_spn h pg key nx hh (.inl hlf) hkf (by omega) hpg hsp q1 q2)
theorem changed_spn {f : List Pr → List Pr} (k : Key) (hf : ∀ ps : List Pr, RFit 0 ps → (∀ p ∈ f ps, PrFit p) ∧ lsz (f ps) ≤ 400) (hg : ∀ (lo : Key) (hi : Option Key) (ps : List Pr), Spn 0 lo hi ps → InS lo hi k → Spn 0 lo hi (f ps)) :
    (h : Nat) → (t : Tr h) → {lo : Key} → {hi : Option Key} → RFit h t → Spn h lo hi t → InS lo hi k → RSpn lo hi (changed f k h t)
  | 0, ps, lo, hi, ht, hs, hk => leafRow_spn _ _ [] _ (hg lo hi ps hs hk)
  | h + 1, n, lo, hi, ht, hs, hk => by
    have hw := wayOf_le n.1 k
    have hl : n.2.length = n.1.length + 1 := ht.1
    obtain ⟨t, hx⟩ : ∃ t, n.2[wayOf n.1 k]? = some t := ⟨_, List.getElem?_eq_getElem (by omega)⟩
    have hft := Fit.root h t (ht.2.2.2.2 t (List.mem_of_getElem? hx))
    obtain ⟨h1, h2⟩ := changed_fit k hf h t hft
    rw [changed_kid hx]
    exact replaced_spn ht hw h1 h2 hs (changed_spn k hf hg h t hft (SpnK.at_ _ _ hs hx) (SpnK.way k hs hk))
theorem spnK_all {h : Nat} (hP : ∀ lo hi (t : Tr h), Spn h lo hi t → Srt (prs h t) ∧ ∀ p ∈ prs h t, InS lo hi p.key) {hi : Option Key} : ∀ {ks : List Key} {cs : List (Tr h)} {lo : Key}, SpnK (Spn h) lo hi ks cs →
    Srt (cs.flatMap (prs h)) ∧ ∀ p ∈ cs.flatMap (prs h), InS lo hi p.key
  | [], [], _, h => h.elim
  | [], [t], lo, h => by simpa using hP lo hi t h
  | [], _ :: _ :: _, _, h => h.elim
  | _ :: _, [], _, h => h.elim
  | k :: ks, t :: ts, lo, h => by
    obtain ⟨h1, h2, h3, h4⟩ := h
    obtain ⟨a1, a2⟩ := hP _ _ t h3
    obtain ⟨b1, b2⟩ := spnK_all hP h4
    rw [List.flatMap_cons]
    refine ⟨List.pairwise_append.2 ⟨a1, b1, fun x hx y hy => klt_le ((a2 x hx).2 k rfl) (b2 y hy).1⟩, fun p hp => ?_⟩
    rcases List.mem_append.1 hp with hp | hp
    · exact ⟨(a2 p hp).1, fun y hy => ktrans ((a2 p hp).2 k rfl) (h2 y hy)⟩
    · exact ⟨fun h9 => (b2 p hp).1 (ktrans h9 h1), (b2 p hp).2⟩
/-- The pairs of a tree stand in order. -/
theorem spn_all : (h : Nat) → (lo : Key) → (hi : Option Key) → (t : Tr h) → Spn h lo hi t → Srt (prs h t) ∧ ∀ p ∈ prs h t, InS lo hi p.key
  | 0, _, _, _, h => h
  | h + 1, lo, hi, n, hs => spnK_all (fun lo hi t => spn_all h lo hi t) hs
theorem way_parts {h : Nat} {hi : Option Key} (k : Key) : ∀ {ks : List Key} {cs : List (Tr h)} {lo : Key}, SpnK (Spn h) lo hi ks cs →
    (∀ p ∈ (cs.take (wayOf ks k)).flatMap (prs h), p.key < k) ∧ ∀ p ∈ (cs.drop (wayOf ks k + 1)).flatMap (prs h), k < p.key
  | [], [], _, h => h.elim
  | [], [t], _, _ => by simp [wayOf]
  | [], _ :: _ :: _, _, h => h.elim
  | _ :: _, [], _, h => h.elim
  | x :: ks, t :: ts, lo, h => by
    obtain ⟨h1, h2, h3, h4⟩ := h
    unfold wayOf
    rw [List.takeWhile_cons]
    by_cases hx : k < x
    · rw [if_neg (by simp [hx])]
      refine ⟨by simp, fun p hp => ?_⟩
      have hp' : p ∈ ts.flatMap (prs _) := by simpa using hp
      exact klt_le hx ((spnK_all (fun lo hi t => spn_all _ lo hi t) h4).2 p hp').1
    · rw [if_pos (by simp [hx]), List.length_cons, List.take_succ_cons, List.drop_succ_cons, List.flatMap_cons]
      obtain ⟨g1, g2⟩ := way_parts k h4
      refine ⟨fun p hp => ?_, g2⟩
      rcases List.mem_append.1 hp with hp | hp
      · exact klt_le (((spn_all _ _ _ t h3).2 p hp).2 x rfl) hx
      · exact g1 p hp
theorem Fit.kids : (h : Nat) → (t : Tr h) → Fit h t → Kids h t
  | 0, _, _ => trivial
  | h + 1, n, ht => ⟨ht.1, fun t hx => Fit.kids h t (ht.2.2.2.2 t hx)⟩
theorem RFit.kids : (h : Nat) → (t : Tr h) → RFit h t → Kids h t
  | 0, _, _ => trivial
  | h + 1, n, ht => Fit.kids (h + 1) n ht
/-- A leaf becomes another, all else stays, and lies ahead of the key or behind it. -/
theorem changed_parts (f : List Pr → List Pr) (k : Key) : (h : Nat) → (t : Tr h) → {lo : Key} → {hi : Option Key} → Kids h t → Spn h lo hi t → InS lo hi k →
    ∃ A B, prs h t = A ++ leafOf h t k ++ B ∧ rowPrs h (changed f k h t) = A ++ f (leafOf h t k) ++ B ∧ (∀ p ∈ A, p.key < k) ∧ ∀ p ∈ B, k < p.key
  | 0, ps, _, _, _, _, _ => ⟨[], [], (List.append_nil _).symm, by rw [show changed f k 0 ps = leafRow (f ps) from rfl, leafRow_prs]; exact (List.append_nil _).symm, by simp, by simp⟩
  | h + 1, n, lo, hi, hk, hs, hin => by
    obtain ⟨h1, h2⟩ := hk
    have hw := wayOf_le n.1 k
    have hlt : wayOf n.1 k < n.2.length := by omega
    obtain ⟨t, ht⟩ : ∃ t, n.2[wayOf n.1 k]? = some t := ⟨_, List.getElem?_eq_getElem hlt⟩
    obtain ⟨A, B, e1, e2, e3, e4⟩ := changed_parts f k h t (h2 t (List.mem_of_getElem? ht)) (SpnK.at_ _ _ hs ht) (SpnK.way k hs hin)
    obtain ⟨w1, w2⟩ := way_parts k hs
    refine ⟨(n.2.take (wayOf n.1 k)).flatMap (prs h) ++ A, B ++ (n.2.drop (wayOf n.1 k + 1)).flatMap (prs h), ?_, ?_, fun p hp => ?_, fun p hp => ?_⟩
    · have hd : n.2 = n.2.take (wayOf n.1 k) ++ t :: n.2.drop (wayOf n.1 k + 1) := by
        obtain ⟨hlt', rfl⟩ := List.getElem?_eq_some_iff.1 ht
        rw [← List.drop_eq_getElem_cons hlt', List.take_append_drop]
      have e : prs (h + 1) n = n.2.flatMap (prs h) := rfl
      have hle : leafOf (h + 1) n k = leafOf h t k := leafOf_kid ht
      rw [e, hle]
      conv => lhs; rw [hd]
      rw [List.flatMap_append, List.flatMap_cons, e1]
      simp
    · have hle : leafOf (h + 1) n k = leafOf h t k := leafOf_kid ht
      have hc : changed f k (h + 1) n = replaced n.1 n.2 (wayOf n.1 k) (changed f k h t) := changed_kid ht
      rw [hc, hle, replaced_prs _ _ _ _ hlt, e2]
      simp
    · rcases List.mem_append.1 hp with hp | hp
      · exact w1 p hp
      · exact e3 p hp
    · rcases List.mem_append.1 hp with hp | hp
      · exact e4 p hp
      · exact w2 p hp
def hasL (k : Key) (ps : List Pr) : Bool := match ps[placeOf ps k]? with | some p => decide (p.key = k) | none => false
def getL (k : Key) (ps : List Pr) : Option (List UInt8) := match ps[placeOf ps k]? with | some p => if p.key = k then some p.val else none | none => none
theorem placeOf_append {A L : List Pr} {k : Key} (h : ∀ p ∈ A, p.key < k) : placeOf (A ++ L) k = A.length + placeOf L k := by
  unfold placeOf
  induction A with
  | nil => simp
  | cons a A ih =>
    rw [List.cons_append, List.takeWhile_cons, if_pos (by simpa using h a (by simp)), List.length_cons, ih (fun p hp => h p (by simp [hp])), List.length_cons]
    omega
theorem placeOf_behind {L B : List Pr} {k : Key} (h : ∀ p ∈ B, k < p.key) : placeOf (L ++ B) k = placeOf L k := by
  unfold placeOf
  induction L with
  | nil =>
    cases B with
    | nil => rfl
    | cons b B => simp only [List.nil_append, List.takeWhile_cons]; rw [if_neg (by simpa using kasymm (h b (by simp)))]; rfl
  | cons a L ih =>
    rw [List.cons_append, List.takeWhile_cons, List.takeWhile_cons]
    split
    · rw [List.length_cons, List.length_cons, ih]
    · rfl
theorem placeOf_le (L : List Pr) (k : Key) : placeOf L k ≤ L.length := (List.takeWhile_sublist _).length_le
theorem at_parts {A L B : List Pr} {k : Key} (hA : ∀ p ∈ A, p.key < k) (hB : ∀ p ∈ B, k < p.key) :
    placeOf (A ++ L ++ B) k = A.length + placeOf L k ∧ (((A ++ L ++ B)[A.length + placeOf L k]? = L[placeOf L k]? ∧ placeOf L k < L.length) ∨ (placeOf L k = L.length ∧ (A ++ L ++ B)[A.length + placeOf L k]? = B[0]?)) := by
  refine ⟨by rw [List.append_assoc, placeOf_append hA, placeOf_behind hB], ?_⟩
  have := placeOf_le L k
  rw [List.append_assoc, List.getElem?_append_right (by omega), Nat.add_sub_cancel_left]
  rcases Nat.lt_or_ge (placeOf L k) L.length with h | h
  · exact .inl ⟨List.getElem?_append_left h, h⟩
  · have e : placeOf L k = L.length := by omega
    exact .inr ⟨e, by rw [List.getElem?_append_right h, e, Nat.sub_self]⟩
theorem not_behind {B : List Pr} {k : Key} (hB : ∀ p ∈ B, k < p.key) {p : Pr} (h : B[0]? = some p) : p.key ≠ k := fun e => kirr k (by have := hB p (List.mem_of_getElem? h); rw [e] at this; exact this)
theorem getL_parts {A L B : List Pr} {k : Key} (hA : ∀ p ∈ A, p.key < k) (hB : ∀ p ∈ B, k < p.key) : getL k (A ++ L ++ B) = getL k L := by
  obtain ⟨h1, h2⟩ := at_parts (L := L) hA hB
  unfold getL
  rw [h1]
  rcases h2 with ⟨h2, h3⟩ | ⟨h2, h3⟩
  · rw [h2]
  · rw [h3, List.getElem?_eq_none (l := L) (by omega)]
    cases hb : B[0]? with
    | none => rfl
    | some p => simp only; rw [if_neg (not_behind hB hb)]
theorem hasL_get (k : Key) (ps : List Pr) : hasL k ps = (getL k ps).isSome := by
  unfold hasL getL
  cases ps[placeOf ps k]? with
  | none => rfl
  | some p => simp only; by_cases h : p.key = k <;> simp [h]
theorem putL_parts {A L B : List Pr} {k v : Key} (hA : ∀ p ∈ A, p.key < k) (hB : ∀ p ∈ B, k < p.key) : putL k v (A ++ L ++ B) = A ++ putL k v L ++ B := by
  obtain ⟨h1, h2⟩ := at_parts (L := L) hA hB
  have hle := placeOf_le L k
  have tk : (A ++ L ++ B).take (A.length + placeOf L k) = A ++ L.take (placeOf L k) := by
    rw [List.append_assoc, List.take_length_add_append, List.take_append_of_le_length hle]
  have dr : ∀ j, j ≤ L.length → (A ++ L ++ B).drop (A.length + j) = L.drop j ++ B := fun j hj => by
    rw [List.append_assoc, List.drop_length_add_append, List.drop_append_of_le_length hj]
  unfold putL
  rw [h1, tk]
  rcases h2 with ⟨h2, h3⟩ | ⟨h2, h3⟩
  · rw [h2]
    obtain ⟨p, hp⟩ : ∃ p, L[placeOf L k]? = some p := ⟨_, List.getElem?_eq_getElem h3⟩
    rw [hp]
    dsimp only
    split
    · rw [show A.length + placeOf L k + 1 = A.length + (placeOf L k + 1) by omega, dr _ (by omega)]; simp
    · rw [dr _ (by omega)]; simp
  · rw [h3, List.getElem?_eq_none (l := L) (by omega)]
    cases hb : B[0]? with
    | none => dsimp only; rw [dr _ (by omega)]; simp
    | some p => dsimp only; rw [if_neg (not_behind hB hb), dr _ (by omega)]; simp
theorem placeOf_lo {ps : List Pr} {k : Key} : ∀ p ∈ ps.take (placeOf ps k), p.key < k := by
  intro p hp
  unfold placeOf at hp
  induction ps with
  | nil => simp at hp
  | cons a r ih =>
    rw [List.takeWhile_cons] at hp
    split at hp
    · next h =>
      rw [List.length_cons, List.take_succ_cons] at hp
      rcases List.mem_cons.1 hp with rfl | hp
      · simpa using h
      · exact ih hp
    · simp at hp
theorem placeOf_at {ps : List Pr} {k : Key} {p : Pr} (h : ps[placeOf ps k]? = some p) : ¬ p.key < k := by
  unfold placeOf at h
  induction ps with
  | nil => simp at h
  | cons a r ih =>
    rw [List.takeWhile_cons] at h
    split at h
    · rw [List.length_cons, List.getElem?_cons_succ] at h
      exact ih h
    · next hx =>
      have : a = p := by simpa using h
      rw [← this]
      simpa using hx
theorem placeOf_hi {ps : List Pr} {k : Key} (hs : Srt ps) : ∀ p ∈ ps.drop (placeOf ps k), ¬ p.key < k := by
  intro p hp
  obtain ⟨j, hj⟩ := List.mem_iff_getElem?.1 hp
  rw [List.getElem?_drop] at hj
  obtain ⟨hlt, hj'⟩ := List.getElem?_eq_some_iff.1 hj
  obtain ⟨q, hq⟩ : ∃ q, ps[placeOf ps k]? = some q := ⟨_, List.getElem?_eq_getElem (by omega)⟩
  have h1 := placeOf_at hq
  cases j with
  | zero =>
    rw [Nat.add_zero, hq] at hj
    injection hj with hj
    exact hj ▸ h1
  | succ j =>
    obtain ⟨hl, hq'⟩ := List.getElem?_eq_some_iff.1 hq
    have := List.pairwise_iff_getElem.1 hs (placeOf ps k) (placeOf ps k + (j + 1)) hl hlt (by omega)
    rw [hq', hj'] at this
    exact fun h9 => h1 (ktrans this h9)
/-- What lies behind where a key lies, without it. -/
def restOf (ps : List Pr) (k : Key) : List Pr := ps.drop (match ps[placeOf ps k]? with | some p => if p.key = k then placeOf ps k + 1 else placeOf ps k | none => placeOf ps k)
theorem putL_eq (k v : Key) (ps : List Pr) : putL k v ps = ps.take (placeOf ps k) ++ ⟨k, v⟩ :: restOf ps k := rfl
theorem restOf_sub (ps : List Pr) (k : Key) : List.Sublist (restOf ps k) (ps.drop (placeOf ps k)) := by
  unfold restOf
  split
  · split
    · rw [show placeOf ps k + 1 = placeOf ps k + 1 from rfl, ← List.drop_drop]; exact List.drop_sublist _ _
    · exact List.Sublist.refl _
  · exact List.Sublist.refl _
theorem restOf_gt {ps : List Pr} {k : Key} (hs : Srt ps) : ∀ p ∈ restOf ps k, k < p.key := by
  intro p hp
  have h1 := placeOf_hi hs p ((restOf_sub ps k).subset hp)
  rcases Decidable.em (k < p.key) with h | h
  · exact h
  · exfalso
    have he : p.key = k := ktri h1 h
    unfold restOf at hp
    split at hp
    · next q hq =>
      obtain ⟨hl, hq'⟩ := List.getElem?_eq_some_iff.1 hq
      split at hp
      · next hqk =>
        obtain ⟨j, hj⟩ := List.mem_iff_getElem?.1 hp
        rw [List.getElem?_drop] at hj
        obtain ⟨hlt, hj'⟩ := List.getElem?_eq_some_iff.1 hj
        have := List.pairwise_iff_getElem.1 hs (placeOf ps k) (placeOf ps k + 1 + j) hl hlt (by omega)
        rw [hq', hj', he, hqk] at this
        exact kirr _ this
      · next hqk =>
        obtain ⟨j, hj⟩ := List.mem_iff_getElem?.1 hp
        rw [List.getElem?_drop] at hj
        obtain ⟨hlt, hj'⟩ := List.getElem?_eq_some_iff.1 hj
        cases j with
        | zero =>
          rw [Nat.add_zero, hq] at hj
          injection hj with hj
          exact hqk (hj ▸ he)
        | succ j =>
          have := List.pairwise_iff_getElem.1 hs (placeOf ps k) (placeOf ps k + (j + 1)) hl hlt (by omega)
          rw [hq', hj', he] at this
          exact placeOf_at hq this
    · next hq =>
      have : ps.length ≤ placeOf ps k := List.getElem?_eq_none_iff.1 hq
      rw [List.drop_eq_nil_iff.2 this] at hp
      cases hp
theorem putL_spn {k v : Key} {lo : Key} {hi : Option Key} {ps : List Pr} (h : Spn 0 lo hi ps) (hk : InS lo hi k) : Spn 0 lo hi (putL k v ps) := by
  obtain ⟨h1, h2⟩ := h
  have hr := restOf_sub ps k
  have hd := List.drop_sublist (placeOf ps k) ps
  have key_ : Srt (putL k v ps) ∧ ∀ p ∈ putL k v ps, InS lo hi p.key := by
    rw [putL_eq]
    refine ⟨List.pairwise_append.2 ⟨h1.sublist (List.take_sublist _ _), List.pairwise_cons.2 ⟨fun x hx => restOf_gt h1 x hx, h1.sublist (hr.trans hd)⟩, fun x hx y hy => ?_⟩, fun p hp => ?_⟩
    · have g := placeOf_lo x hx
      rcases List.mem_cons.1 hy with rfl | hy
      · exact g
      · exact ktrans g (restOf_gt h1 y hy)
    · rcases List.mem_append.1 hp with hp | hp
      · exact h2 p (List.mem_of_mem_take hp)
      · rcases List.mem_cons.1 hp with rfl | hp
        · exact hk
        · exact h2 p ((hr.trans hd).subset hp)
  exact key_
theorem pwt_append (a b : List Pr) : pwt (a ++ b) = pwt a + pwt b := by simp [pwt]
theorem pwt_sub {a b : List Pr} (h : List.Sublist a b) : pwt a ≤ pwt b := by
  induction h with
  | slnil => exact Nat.le_refl _
  | cons x _ ih => simp only [pwt, List.map_cons, List.sum_cons] at ih ⊢; omega
  | cons_cons x _ ih => simp only [pwt, List.map_cons, List.sum_cons] at ih ⊢; omega
theorem putL_fit {k v : Key} (hk : KeyFit k) (hv : v.length ≤ 100) {ps : List Pr} (h : RFit 0 ps) : (∀ p ∈ putL k v ps, PrFit p) ∧ lsz (putL k v ps) ≤ 400 := by
  obtain ⟨h1, h2⟩ := h
  have hr := restOf_sub ps k
  have hd := List.drop_sublist (placeOf ps k) ps
  rw [putL_eq]
  refine ⟨fun p hp => ?_, ?_⟩
  · rcases List.mem_append.1 hp with hp | hp
    · exact h2 p (List.mem_of_mem_take hp)
    · rcases List.mem_cons.1 hp with rfl | hp
      · exact ⟨hk, hv⟩
      · exact h2 p ((hr.trans hd).subset hp)
  · have e1 := pwt_append (ps.take (placeOf ps k)) (ps.drop (placeOf ps k))
    rw [List.take_append_drop] at e1
    have e2 := pwt_sub hr
    have e3 : lsz (ps.take (placeOf ps k) ++ ⟨k, v⟩ :: restOf ps k) = 3 + (pwt (ps.take (placeOf ps k)) + (psz ⟨k, v⟩ + pwt (restOf ps k))) := by rw [lsz_pwt, pwt_append]; simp [pwt]
    have e4 : psz ⟨k, v⟩ ≤ 142 := PrFit.size' (p := ⟨k, v⟩) ⟨hk, hv⟩
    have e5 : lsz ps = 3 + pwt ps := lsz_pwt ps
    omega
/-- A tree of some height. -/
abbrev Any := (h : Nat) × Tr h
def Any.prs (x : Any) : List Pr := Pl.prs x.1 x.2
/-- Where a row takes a tree's place. -/
def upR {h : Nat} (r : Row h) : Any := match r.1 with
  | [t] => ⟨h, t⟩
  | ts => ⟨h + 1, (r.2, ts)⟩
def downR : Any → Any
  | ⟨h + 1, (n : List Key × List (Tr h))⟩ => match n.2 with
    | [c] => ⟨h, c⟩
    | _ => ⟨h + 1, n⟩
  | ⟨0, t⟩ => ⟨0, t⟩
def newRoot (f : List Pr → List Pr) (k : Key) (x : Any) : Any := downR (upR (changed f k x.1 x.2))
def RootOk (x : Any) : Prop := RFit x.1 x.2 ∧ Spn x.1 [] none x.2
theorem downR_eq {h : Nat} (ks : List Key) (cs : List (Tr h)) : downR ⟨h + 1, ((ks, cs) : List Key × List (Tr h))⟩ = match cs with | [c] => (⟨h, c⟩ : Any) | _ => (⟨h + 1, ((ks, cs) : List Key × List (Tr h))⟩ : Any) := rfl
theorem downR_prs (x : Any) : (downR x).prs = x.prs := by
  obtain ⟨h, t⟩ := x
  cases h with
  | zero => rfl
  | succ h =>
    obtain ⟨ks, cs⟩ := t
    rw [downR_eq]
    match cs with
    | [] => rfl
    | [c] => exact (List.append_nil _).symm
    | a :: b :: r => rfl
theorem upR_prs {h : Nat} (r : Row h) : (upR r).prs = rowPrs h r := by
  unfold upR
  split
  · next t ht => show Pl.prs h t = r.1.flatMap _; rw [ht]; simp
  · rfl
theorem RSpn.len {h : Nat} {lo : Key} {hi : Option Key} {r : Row h} (hs : RSpn lo hi r) : r.1.length = r.2.length + 1 := SpnK.len hs
theorem newRoot_ok {f : List Pr → List Pr} {k : Key} (hf : ∀ ps : List Pr, RFit 0 ps → (∀ p ∈ f ps, PrFit p) ∧ lsz (f ps) ≤ 400) (hg : ∀ (lo : Key) (hi : Option Key) (ps : List Pr), Spn 0 lo hi ps → InS lo hi k → Spn 0 lo hi (f ps))
    {x : Any} (hx : RootOk x) : RootOk (newRoot f k x) := by
  obtain ⟨h, t⟩ := x
  obtain ⟨h1, h2⟩ := hx
  have hk : InS [] none k := ⟨knil k, fun y hy => by cases hy⟩
  obtain ⟨g1, g2⟩ := changed_fit k hf h t h1
  have g3 := changed_spn k hf hg h t h1 h2 hk
  unfold newRoot
  dsimp only
  generalize changed f k h t = r at g1 g2 g3
  obtain ⟨ts, ks⟩ := r
  have hlen := g3.len
  dsimp only at hlen g2
  unfold upR
  dsimp only
  split
  · next t' =>
    have hks : ks = [] := by cases ks with | nil => rfl | cons a b => simp at hlen
    subst hks
    have hsp : Spn h [] none t' := g3
    rcases g1 with g1 | ⟨_, t'', e, ho⟩
    · have ht' : Fit h t' := g1.2.2 t' (by simp)
      cases h with
      | zero => exact ⟨Fit.root 0 t' ht', hsp⟩
      | succ h =>
        obtain ⟨ks', cs'⟩ := t'
        have := ht'.1
        have h9 := List.length_pos_iff.2 ht'.2.1
        dsimp only at this h9
        rw [downR_eq]
        match cs', this with
        | [], h8 => simp at h8
        | [c], h8 => simp only [List.length_cons, List.length_nil] at h8; omega
        | a :: b :: r, _ => exact ⟨ht', hsp⟩
    · injection e with e
      subst e
      cases h with
      | zero =>
        have ho' : t' = ([] : List Pr) := ho
        subst ho'
        have e0 : RFit 0 ([] : List Pr) := ⟨by decide, fun p hp => by cases hp⟩
        exact ⟨e0, hsp⟩
      | succ h =>
        obtain ⟨o1, c, o2, o3⟩ := ho
        obtain ⟨ks', cs'⟩ := t'
        dsimp only at o1 o2
        subst o1 o2
        exact ⟨Fit.root h c o3, hsp⟩
  · next hne =>
    have hks : ks ≠ [] := by
      rintro rfl
      obtain ⟨c, hc⟩ := List.length_eq_one_iff.1 (show ts.length = 1 by simpa using hlen)
      exact hne c hc
    rcases g1 with g1 | ⟨e1, _⟩
    · have e : downR ⟨h + 1, (ks, ts)⟩ = (⟨h + 1, (ks, ts)⟩ : Any) := by
        rw [downR_eq]
        split
        · next c => exact absurd rfl (hne c)
        · rfl
      rw [e]
      refine ⟨⟨hlen, hks, ?_, g1.2.1, g1.2.2⟩, g3⟩
      have := isz_few g1.2.1
      dsimp only at this ⊢
      omega
    · exact absurd e1 hks
theorem newRoot_parts (f : List Pr → List Pr) (k : Key) {x : Any} (hx : RootOk x) : ∃ A B, x.prs = A ++ leafOf x.1 x.2 k ++ B ∧ (newRoot f k x).prs = A ++ f (leafOf x.1 x.2 k) ++ B ∧ (∀ p ∈ A, p.key < k) ∧ ∀ p ∈ B, k < p.key := by
  obtain ⟨A, B, h1, h2, h3⟩ := changed_parts f k x.1 x.2 (RFit.kids x.1 x.2 hx.1) hx.2 ⟨knil k, fun y hy => by cases hy⟩
  exact ⟨A, B, h1, by rw [newRoot, downR_prs, upR_prs, h2], h3⟩
theorem put_prs {k v : Key} {x : Any} (hx : RootOk x) : (newRoot (putL k v) k x).prs = putL k v x.prs := by
  obtain ⟨A, B, h1, h2, h3, h4⟩ := newRoot_parts (putL k v) k hx
  rw [h1, h2, putL_parts h3 h4]
theorem put_ok {k v : Key} (hk : KeyFit k) (hv : v.length ≤ 100) {x : Any} (hx : RootOk x) : RootOk (newRoot (putL k v) k x) :=
  newRoot_ok (fun _ h => putL_fit hk hv h) (fun _ _ _ h h' => putL_spn h h') hx
theorem leaf_get {k : Key} {x : Any} (hx : RootOk x) : getL k (leafOf x.1 x.2 k) = getL k x.prs := by
  obtain ⟨A, B, h1, h2, h3, h4⟩ := newRoot_parts id k hx
  rw [h1, getL_parts h3 h4]
theorem hasL_lt {k : Key} {ps : List Pr} (h : hasL k ps = true) : placeOf ps k < ps.length := by
  unfold hasL at h
  cases hp : ps[placeOf ps k]? with
  | none => rw [hp] at h; cases h
  | some p => exact (List.getElem?_eq_some_iff.1 hp).1
theorem RootOk.srt {x : Any} (hx : RootOk x) : Srt x.prs := (spn_all _ _ _ _ hx.2).1
/-- A tree is not deep. -/
theorem Fit.many : (h : Nat) → (t : Tr h) → Fit h t → 2 ^ h ≤ (prs h t).length
  | 0, ps, h => List.length_pos_iff.2 h.2.1
  | h + 1, n, ht => by
    have hl := ht.1
    have h0 := List.length_pos_iff.2 ht.2.1
    have : ∀ (l : List (Tr h)), (∀ t ∈ l, Fit h t) → l.length * 2 ^ h ≤ (l.flatMap (prs h)).length := by
      intro l
      induction l with
      | nil => intro _; simp
      | cons a r ih =>
        intro hx
        have h1 := Fit.many h a (hx a (by simp))
        have h2 := ih (fun t ht => hx t (by simp [ht]))
        rw [List.flatMap_cons, List.length_append, List.length_cons, Nat.add_mul]
        omega
    have h3 := this n.2 ht.2.2.2.2
    have h4 : 2 * 2 ^ h ≤ n.2.length * 2 ^ h := Nat.mul_le_mul_right _ (by omega)
    show 2 ^ (h + 1) ≤ (n.2.flatMap (prs h)).length
    rw [Nat.pow_succ]
    omega
def pgs : (h : Nat) → Tr h → Nat
  | 0, _ => 1
  | h + 1, (n : List Key × List (Tr h)) => 1 + (n.2.map (pgs h)).sum
theorem Fit.pages : (h : Nat) → (t : Tr h) → Fit h t → pgs h t + 1 ≤ 2 * (prs h t).length
  | 0, ps, h => by have := List.length_pos_iff.2 h.2.1; show 1 + 1 ≤ 2 * List.length ps; omega
  | h + 1, n, ht => by
    have hl := ht.1
    have h0 := List.length_pos_iff.2 ht.2.1
    have : ∀ (l : List (Tr h)), (∀ t ∈ l, Fit h t) → (l.map (pgs h)).sum + l.length ≤ 2 * (l.flatMap (prs h)).length := by
      intro l
      induction l with
      | nil => intro _; simp
      | cons a r ih =>
        intro hx
        have h1 := Fit.pages h a (hx a (by simp))
        have h2 := ih (fun t ht => hx t (by simp [ht]))
        rw [List.flatMap_cons, List.length_append, List.length_cons, List.map_cons, List.sum_cons]
        omega
    have h3 := this n.2 ht.2.2.2.2
    show 1 + (n.2.map (pgs h)).sum + 1 ≤ 2 * (n.2.flatMap (prs h)).length
    omega
theorem putL_len (k v : Key) (ps : List Pr) : (putL k v ps).length ≤ ps.length + 1 := by
  rw [putL_eq, List.length_append, List.length_cons]
  have := (restOf_sub ps k).length_le
  have h1 := placeOf_le ps k
  rw [List.length_drop] at this
  rw [List.length_take]
  omega
end Pl
end Go.Proofs.YtljmklohgpaopaaGreatDoor

namespace Go.Proofs.YtljmklohgpaopaaGreatDoor
namespace Pl

def encPr (p : Pr) : List UInt8 := short p.key ++ short p.val
def leafText (ps : List Pr) : List UInt8 := 108 :: (be 2 ps.length ++ ps.flatMap encPr)
def encKid (x : Key × Nat) : List UInt8 := short x.1 ++ be 4 x.2
def innerText (ks : List Key) (ats : List Nat) : List UInt8 := 105 :: UInt8.ofNat ks.length :: (be 4 (ats.headD 0) ++ (ks.zip (ats.drop 1)).flatMap encKid)
def padded (t : List UInt8) : List UInt8 := t ++ zeros (256 - t.length)
end Pl
end Go.Proofs.YtljmklohgpaopaaGreatDoor

namespace Go.Proofs.YtljmklohgpaopaaGreatDoor
open Go.RowKit

/-- Of the blocks that were there only those of F may have changed. -/
structure Only (F : Nat → Prop) (w w' : World) : Prop where
  os : w'.os = w.os
  tape : w'.tape = w.tape
  output : w'.output = w.output
  size : w.heap.size ≤ w'.heap.size
  block : ∀ k, k < w.heap.size → ¬ F k → w'.heap[k]? = w.heap[k]?

section
variable {F G : Nat → Prop} {a b c w w' : World}
theorem Only.refl (F : Nat → Prop) (w : World) : Only F w w := ⟨rfl, rfl, rfl, Nat.le_refl _, fun _ _ _ => rfl⟩
theorem Only.trans (h : Only F a b) (k : Only G b c) (hG : ∀ x, x < a.heap.size → G x → F x) : Only F a c :=
  ⟨k.os.trans h.os, k.tape.trans h.tape, k.output.trans h.output, Nat.le_trans h.size k.size, fun i hi hn => (k.block i (Nat.lt_of_lt_of_le hi h.size) (fun hg => hn (hG i hi hg))).trans (h.block i hi hn)⟩
theorem Only.trans' (h : Only F a b) (k : Only F b c) : Only F a c := h.trans k (fun _ _ hx => hx)
theorem Only.mono (h : Only F a b) (hG : ∀ x, x < a.heap.size → F x → G x) : Only G a b := ⟨h.os, h.tape, h.output, h.size, fun i hi hn => h.block i hi (fun hf => hn (hG i hi hf))⟩
theorem Only.drew (h : Only F a w) : Only F a w.drew := ⟨h.os, h.tape, h.output, h.size, h.block⟩
theorem Only.drewN (h : Only F a w) (n : Nat) : Only F a (w.drewN n) := ⟨h.os, h.tape, h.output, h.size, h.block⟩
theorem Only.undrew (h : Only F a.drew w) : Only F a w := ⟨h.os, h.tape, h.output, h.size, h.block⟩
theorem Only.alloc (h : Only F a w) (o : Obj) : Only F a (w.alloc o) :=
  ⟨h.os, h.tape, h.output, Nat.le_trans h.size (by simp), fun i hi hn => (Below.heap_alloc w o i (Nat.lt_of_lt_of_le hi h.size)).trans (h.block i hi hn)⟩
theorem Only.setCell (h : Only F a w) {p : Addr} (hp : F p.block ∨ a.heap.size ≤ p.block) (u : Value) : Only F a (w.setCell p u) :=
  ⟨h.os, h.tape, h.output, by simpa [World.setCell] using h.size, fun i hi hn => (Below.heap_setCell w p u i (by
    rintro rfl
    rcases hp with hp | hp
    · exact hn hp
    · omega)).trans (h.block i hi hn)⟩
theorem Only.of_below (h : Below a.heap.size a w) (F : Nat → Prop) : Only F a w := ⟨h.os, h.tape, h.output, h.size, fun i hi _ => h.block i hi⟩
theorem Only.below (h : Only F a w) (k : Below w.heap.size w w') : Only F a w' := h.trans (Only.of_below k (fun _ => False)) (fun _ _ hx => hx.elim)
theorem Only.grown (h : Only F a w) {row : Option Nat} (k : w.grownBy w' row) (hr : ∀ g, row = some g → F g ∨ a.heap.size ≤ g) : Only F a w' :=
  ⟨k.os.trans h.os, k.tape.trans h.tape, k.output.trans h.output, Nat.le_trans h.size k.size, fun i hi hn => (k.block i (Nat.lt_of_lt_of_le hi h.size) (fun e => by
    rcases hr i e.symm with hf | hf
    · exact hn hf
    · omega)).trans (h.block i hi hn)⟩
theorem Only.toBelow (h : Only F a w) {B : Nat} (hB : B ≤ a.heap.size) (hF : ∀ k, k < B → ¬ F k) : Below B a w := ⟨h.os, h.tape, h.output, h.size, fun k hk => h.block k (Nat.lt_of_lt_of_le hk hB) (hF k hk)⟩
theorem Only.blk {g : Nat} {t : TypeId} {cs : List Value} (h : Only F w w') (hb : Blk w g t cs) (hg : ¬ F g) : Blk w' g t cs := (h.block g hb.lt hg).trans hb
theorem Only.cell (h : Only F w w') {p : Addr} {u : Value} (hp : w.cell? p = some u) (hn : ¬ F p.block) : w'.cell? p = some u :=
  (World.cell?_of_block (h.block p.block (World.block_lt_of_cell? _ _ hp) hn)).trans hp
theorem Only.src {A : Option Addr} {cs : List Value} (h : Only F w w') (hs : Src w A cs) (hA : ∀ p, A = some p → ¬ F p.block) : Src w' A cs := by
  rcases hs with hs | ⟨b, off, rfl, hs⟩
  · exact .inl hs
  · exact .inr ⟨b, off, rfl, fun j u hu => h.cell (hs j u hu) (hA ⟨b, off, none⟩ rfl)⟩
theorem Only.bytes {A : Option Addr} {l : List UInt8} (h : Only F w w') (hs : BytesAt w A l) (hA : ∀ p, A = some p → ¬ F p.block) : BytesAt w' A l := Src.bytes (h.src hs.src hA)
theorem Only.own {base n size : Nat} {e : TypeId} {v : Value} {xs : List Value} (h : Only F w w') (hs : w.ownsRow base e size v n xs) (hv : ∀ g, v.ownBlock = some g → ¬ F g) : w'.ownsRow base e size v n xs := by
  refine ⟨hs.1, ?_⟩
  rcases hs.2 with hn | ⟨g, cap, cur, rfl, hb, hg, rest⟩
  · exact .inl hn
  · refine .inr ⟨g, cap, cur, rfl, hb, ?_, rest⟩
    rw [h.block g (Array.getElem?_eq_some_iff.1 hg).1 (hv g rfl)]
    exact hg
end
end Go.Proofs.YtljmklohgpaopaaGreatDoor

namespace Go.Proofs.YtljmklohgpaopaaGreatDoor
open Go.RowKit

end Go.Proofs.YtljmklohgpaopaaGreatDoor

namespace Go.Proofs.YtljmklohgpaopaaGreatDoor
open Go.RowKit

/-- Hashes as the cells of a row. -/
def hcs (ps : List Nat) : List Value := ps.flatMap hc
theorem hcs_len (ps : List Nat) : (hcs ps).length = ps.length * 4 := by
  induction ps with
  | nil => rfl
  | cons a r ih => simp only [hcs, List.flatMap_cons, List.length_append] at ih ⊢; rw [ih]; simp [hc]; omega
theorem hcs_append (a b : List Nat) : hcs (a ++ b) = hcs a ++ hcs b := by simp [hcs]
theorem hcs_one (n : Nat) : hcs [n] = hc n := by simp [hcs]
theorem own_below {w w' : World} {base : Nat} {e : TypeId} {size n : Nat} {v : Value} {xs : List Value} (h : w.ownsRow base e size v n xs) (hb : Below w.heap.size w w') : w'.ownsRow base e size v n xs := by
  refine h.kept (only_of_below hb none) ?_
  cases v.ownBlock
  · exact .inl rfl
  · exact .inr (by simp)

end Go.Proofs.YtljmklohgpaopaaGreatDoor

namespace Go.Proofs.YtljmklohgpaopaaGreatDoor
open Go.RowKit

def tstr (l : List UInt8) : ByteArray := ⟨l.toArray⟩
theorem tstr_size (l : List UInt8) : (tstr l).size = l.length := by show l.toArray.size = _; simp
theorem tstr_list (l : List UInt8) : (tstr l).data.toList = l := rfl
theorem tstr_append (a b : List UInt8) : tstr a ++ tstr b = tstr (a ++ b) := by
  have : (tstr a ++ tstr b).data = (tstr (a ++ b)).data := by
    apply Array.toList_inj.1
    simp [tstr_list]
  cases h1 : tstr a ++ tstr b; cases h2 : tstr (a ++ b); rw [h1, h2] at this; simpa using this
theorem run_cat (w : World) (a b : List UInt8) (h : a.length + b.length ≤ 9223372036854775807) : (Op.stringOp .add (tstr a) (tstr b)).run Tryz.prog w = .ok (.string (tstr (a ++ b))) w := by
  rw [run_string_add_sum w _ _ (by rw [tstr_size, tstr_size]; exact h), tstr_append]
theorem tstr_take (l : List UInt8) (k : Nat) : (tstr l).extract 0 k = tstr (l.take k) := by
  have : ((tstr l).extract 0 k).data = (tstr (l.take k)).data := by
    apply Array.toList_inj.1
    simp [tstr_list, tstr]
  cases h1 : (tstr l).extract 0 k; cases h2 : tstr (l.take k); rw [h1, h2] at this; simpa using this
theorem tstr_drop (l : List UInt8) (k : Nat) : (tstr l).extract k l.length = tstr (l.drop k) := by
  have : ((tstr l).extract k l.length).data = (tstr (l.drop k)).data := by
    apply Array.toList_inj.1
    simp [tstr_list, tstr]
    rw [List.take_of_length_le (by simp)]
  cases h1 : (tstr l).extract k l.length; cases h2 : tstr (l.drop k); rw [h1, h2] at this; simpa using this
theorem run_str_take (w : World) (l : List UInt8) (k : Int) (n : Nat) (hk : k = n) (hn : n ≤ l.length) :
    (Instr.slice 9 (.string (tstr l)) none (some (.int .i64 k)) none).run Tryz.prog w = .ok (.string (tstr (l.take n))) w := by
  subst hk
  rw [run_slice_string_to_if w 9 (tstr l) .i64 n Tryz.underlying9, if_pos ⟨by omega, by rw [tstr_size]; omega⟩, Int.toNat_natCast, tstr_take]
theorem run_str_drop (w : World) (l : List UInt8) (k : Int) (n : Nat) (hk : k = n) (hn : n ≤ l.length) :
    (Instr.slice 9 (.string (tstr l)) (some (.int .i64 k)) none none).run Tryz.prog w = .ok (.string (tstr (l.drop n))) w := by
  subst hk
  rw [run_slice_string_from_if w 9 (tstr l) .i64 n Tryz.underlying9, if_pos ⟨by omega, by rw [tstr_size]; omega⟩, Int.toNat_natCast, tstr_size, tstr_drop]

end Go.Proofs.YtljmklohgpaopaaGreatDoor

namespace Go.Proofs.YtljmklohgpaopaaGreatDoor
open Go.RowKit

theorem hcs_snoc_at (qs : List Nat) (x j : Nat) (hj : j < 4) : (hcs (qs ++ [x]))[qs.length * 4 + j]? = (hc x)[j]? := by
  rw [hcs_append, hcs_one, List.getElem?_append_right (by rw [hcs_len]; omega), hcs_len]
  congr 1
  omega

/-- The four cells of the hash that stands behind the others. -/
theorem Src.last4 {w : World} {b off n : Nat} {qs : List Nat} {x : Nat} (h : Src w (some ⟨b, off, none⟩) (hcs (qs ++ [x]))) (hn : qs.length = n) :
    w.cell? ⟨b, off + n * 4, none⟩ = some (.int .u8 ((x : Int) / 16777216)) ∧ w.cell? ⟨b, off + n * 4 + 1, none⟩ = some (.int .u8 ((x : Int) / 65536 % 256)) ∧
    w.cell? ⟨b, off + n * 4 + 2, none⟩ = some (.int .u8 ((x : Int) / 256 % 256)) ∧ w.cell? ⟨b, off + n * 4 + 3, none⟩ = some (.int .u8 ((x : Int) % 256)) := by
  subst hn
  have h' := fun j hj => h.cell (qs.length * 4 + j) _ (by rw [hcs_snoc_at qs x j hj, List.getElem?_eq_getElem (by simp [hc]; omega)])
  exact ⟨h' 0 (by omega), h' 1 (by omega), h' 2 (by omega), h' 3 (by omega)⟩

end Go.Proofs.YtljmklohgpaopaaGreatDoor

namespace Go.Proofs.YtljmklohgpaopaaGreatDoor
open Go.RowKit

end Go.Proofs.YtljmklohgpaopaaGreatDoor
