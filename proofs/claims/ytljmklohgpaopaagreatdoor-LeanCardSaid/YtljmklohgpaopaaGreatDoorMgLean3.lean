/- Plain: fit pages: what a tree that Put makes keeps. No program in sight. Plain: keys in order, and where they lie: what a tree that Put makes keeps. No program in sight. -/
import Derived.Test.YtljmklohgpaopaaGreatDoorMgLean2
set_option linter.unusedVariables false
set_option linter.unusedSimpArgs false

namespace Go.Proofs.YtljmklohgpaopaaGreatDoor
namespace Pl

def KeyFit (k : List UInt8) : Prop := 1 ≤ k.length ∧ k.length ≤ 40
def PrFit (p : Pr) : Prop := KeyFit p.key ∧ p.val.length ≤ 100
/-- A page that may be saved, and all below it. -/
def Fit : (h : Nat) → Tr h → Prop
  | 0, (ps : List Pr) => lsz ps ≤ 256 ∧ ps ≠ [] ∧ ∀ p ∈ ps, PrFit p
  | h + 1, (n : List (List UInt8) × List (Tr h)) => n.2.length = n.1.length + 1 ∧ n.1 ≠ [] ∧ isz n.1 ≤ 256 ∧ (∀ k ∈ n.1, KeyFit k) ∧ ∀ t ∈ n.2, Fit h t
/-- Pages side by side that may be saved. -/
def RowFit (h : Nat) (r : Row h) : Prop := r.1.length = r.2.length + 1 ∧ (∀ k ∈ r.2, KeyFit k) ∧ ∀ t ∈ r.1, Fit h t
theorem PrFit.size {p : Pr} (h : PrFit p) : psz p ≤ 253 := by
  obtain ⟨⟨_, h1⟩, h2⟩ := h
  unfold psz
  omega
theorem leafRow_fit {ps : List Pr} (h : ∀ p ∈ ps, PrFit p) (h0 : ps ≠ []) : RowFit 0 (leafRow ps) := by
  have hmem : ∀ pg ∈ (leavesOf ps).1, ∀ p ∈ pg, p ∈ ps := fun pg hpg p hp => by
    rw [← leavesOf_flat ps]
    exact List.mem_flatten.2 ⟨pg, hpg, hp⟩
  refine ⟨lv_keys _ _ _ _, fun k hk => ?_, fun t ht => ⟨leavesOf_small (fun p hp => (h p hp).size) t ht, leavesOf_full h0 t ht, fun p hp => h p (hmem t ht p hp)⟩⟩
  obtain ⟨i, hi⟩ := List.mem_iff_getElem?.1 hk
  obtain ⟨p, r, h1, h2⟩ := lv_first _ _ _ _ i k hi
  rw [← h2]
  exact (h p (hmem (p :: r) (List.mem_of_getElem? h1) p (by simp))).1
theorem innerRow_fit {h : Nat} {ks : List (List UInt8)} {cs : List (Tr h)} (hl : cs.length = ks.length + 1) (h0 : ks ≠ []) (hk : ∀ k ∈ ks, KeyFit k) (hc : ∀ t ∈ cs, Fit h t) (hs : isz ks ≤ 420) : RowFit (h + 1) (innerRow ks cs) := by
  unfold innerRow innersOf
  split
  · next h1 =>
    refine ⟨rfl, by simp, fun t ht => ?_⟩
    obtain rfl : t = (ks, cs) := List.mem_singleton.1 ht
    exact ⟨hl, h0, h1, hk, hc⟩
  · next h1 =>
    obtain ⟨g1, g2, g3, g4⟩ := cutAt_spec (fun k hk' => (hk k hk').2) (by omega) hs
    refine ⟨?_, fun k hk' => hk k (List.mem_of_mem_drop (List.mem_of_mem_take hk')), fun t ht => ?_⟩
    · show 2 = ((ks.drop (cutAt ks)).take 1).length + 1
      rw [List.length_take, List.length_drop]; omega
    · have ht' : t = (ks.take (cutAt ks), cs.take (cutAt ks + 1)) ∨ t = (ks.drop (cutAt ks + 1), cs.drop (cutAt ks + 1)) := by
        rcases List.mem_cons.1 ht with e | ht
        · exact .inl e
        · exact .inr (List.mem_singleton.1 ht)
      rcases ht' with rfl | rfl
      · refine ⟨by simp; omega, fun e => ?_, g3, fun k hk' => hk k (List.mem_of_mem_take hk'), fun t ht => hc t (List.mem_of_mem_take ht)⟩
        have e' : ks.take (cutAt ks) = [] := e
        rw [List.take_eq_nil_iff] at e'
        rcases e' with e' | e'
        · omega
        · exact h0 e'
      · refine ⟨by simp; omega, fun e => ?_, g4, fun k hk' => hk k (List.mem_of_mem_drop hk'), fun t ht => hc t (List.mem_of_mem_drop ht)⟩
        have e' : ks.drop (cutAt ks + 1) = [] := e
        rw [List.drop_eq_nil_iff] at e'
        omega
/-- One page with one kid and no key, or with no pair: it lasts till the page above, or the root, takes it up. -/
def OneKid : (h : Nat) → Tr h → Prop
  | 0, (ps : List Pr) => ps = []
  | h + 1, (n : List (List UInt8) × List (Tr h)) => n.1 = [] ∧ ∃ t, n.2 = [t] ∧ Fit h t
/-- What becomes of a page. -/
def Becomes (h : Nat) (r : Row h) : Prop := RowFit h r ∨ (r.2 = [] ∧ ∃ t, r.1 = [t] ∧ OneKid h t)
theorem isz_append (a b : List (List UInt8)) : isz (a ++ b) + 6 = isz a + isz b := by simp [isz]; omega
theorem isz_cons (k : List UInt8) (b : List (List UInt8)) : isz (k :: b) = isz b + (5 + k.length) := by simp [isz]; omega
/-- A small page, fit or with one kid. -/
def Half (h : Nat) (t : Tr h) : Prop := Fit h t ∨ OneKid h t
theorem Half.inner {h : Nat} {n : List (List UInt8) × List (Tr h)} (hn : Half (h + 1) n) : n.2.length = n.1.length + 1 ∧ isz n.1 ≤ 256 ∧ (∀ k ∈ n.1, KeyFit k) ∧ ∀ t ∈ n.2, Fit h t := by
  rcases hn with ⟨h1, h2, h3, h4, h5⟩ | ⟨h1, t, h2, h3⟩
  · exact ⟨h1, h3, h4, h5⟩
  · refine ⟨by rw [h1, h2]; rfl, by rw [h1]; decide, (by rw [h1]; intro k hk; cases hk), by rw [h2]; intro x hx; rw [List.mem_singleton.1 hx]; exact h3⟩
theorem Half.leaf {ps : List Pr} (h : Half 0 ps) : ∀ p ∈ ps, PrFit p := by
  rcases h with ⟨_, _, h⟩ | h
  · exact h
  · have h' : ps = [] := h
    rw [h']; intro p hp; cases hp
theorem together_fit : (h : Nat) → (a : Tr h) → (key : List UInt8) → (b : Tr h) → Half h a → Half h b → (Fit h a ∨ Fit h b) → KeyFit key → pgsz h a + pgsz h b ≤ 256 + 85 → RowFit h (together h a key b)
  | 0, a, _, b, ha, hb, hab, _, _ => by
    refine leafRow_fit (fun p hp => ?_) (fun e => ?_)
    · rcases List.mem_append.1 hp with hp | hp
      · exact ha.leaf p hp
      · exact hb.leaf p hp
    · obtain ⟨e1, e2⟩ := List.append_eq_nil_iff.1 e
      rcases hab with hab | hab
      · exact hab.2.1 e1
      · exact hab.2.1 e2
  | h + 1, a, key, b, ha, hb, _, hk, hs => by
    obtain ⟨a1, a2, a3, a4⟩ := ha.inner
    obtain ⟨b1, b2, b3, b4⟩ := hb.inner
    have e1 := isz_append a.1 (key :: b.1)
    rw [isz_cons] at e1
    have hs' : isz a.1 + isz b.1 ≤ 256 + 85 := hs
    refine innerRow_fit (by rw [List.length_append, List.length_append, List.length_cons]; omega) (by simp) (fun k hk' => ?_) (fun t ht => ?_) (by have := hk.2; omega)
    · rcases List.mem_append.1 hk' with hk' | hk'
      · exact a3 k hk'
      · rcases List.mem_cons.1 hk' with rfl | hk'
        · exact hk
        · exact b3 k hk'
    · rcases List.mem_append.1 ht with ht | ht
      · exact a4 t ht
      · exact b4 t ht
def pwt (ps : List Pr) : Nat := (ps.map psz).sum
theorem lsz_pwt (ps : List Pr) : lsz ps = 3 + pwt ps := rfl
/-- A page that is closed weighs something, so there are few. -/
theorem lv_count (all : Nat) (ha : 256 < all) : ∀ (ps now : List Pr) (size : Nat), size = lsz now → (∀ p ∈ ps, psz p ≤ 142) → (lv all ps now size).2.length * 112 ≤ pwt now + pwt ps
  | [], now, _, _, _ => by simp [lv]
  | p :: r, now, size, h1, h2 => by
    have hp := h2 p (by simp)
    have hw : pwt (p :: r) = psz p + pwt r := by simp [pwt]
    unfold lv
    split
    · next hc =>
      have ih := lv_count all ha r [p] (3 + psz p) (by simp [lsz]) (fun q hq => h2 q (by simp [hq]))
      have hp1 : pwt [p] = psz p := by simp [pwt]
      have hn : 112 ≤ pwt now := by
        have := lsz_pwt now
        rcases hc.1 with h | ⟨_, h⟩ <;> omega
      rw [List.length_cons, Nat.add_mul]
      omega
    · have ih := lv_count all ha r (now ++ [p]) (size + psz p) (by rw [lsz_snoc, h1]) (fun q hq => h2 q (by simp [hq]))
      have : pwt (now ++ [p]) = pwt now + psz p := by simp [pwt]
      omega
theorem PrFit.size' {p : Pr} (h : PrFit p) : psz p ≤ 142 := by
  obtain ⟨⟨_, h1⟩, h2⟩ := h
  unfold psz
  omega
theorem lv_one (all : Nat) (ha : all ≤ 256) : ∀ (ps now : List Pr) (size : Nat), size + pwt ps ≤ 256 → (lv all ps now size).2 = []
  | [], now, _, _ => by simp [lv]
  | p :: r, now, size, h => by
    have hw : pwt (p :: r) = psz p + pwt r := by simp [pwt]
    unfold lv
    rw [if_neg (fun hc => by rcases hc.1 with h9 | ⟨h9, _⟩ <;> omega)]
    exact lv_one all ha r (now ++ [p]) _ (by omega)
theorem leavesOf_few {ps : List Pr} (h : ∀ p ∈ ps, PrFit p) (hs : lsz ps ≤ 400) : (leavesOf ps).2.length ≤ 3 := by
  unfold leavesOf
  have hw := lsz_pwt ps
  by_cases ha : lsz ps ≤ 256
  · rw [lv_one _ ha ps [] 3 (by omega)]; simp
  · have := lv_count (lsz ps) (by omega) ps [] 3 rfl (fun p hp => (h p hp).size')
    have h0 : pwt ([] : List Pr) = 0 := rfl
    omega
theorem innersOf_few {α : Type} (ks : List (List UInt8)) (cs : List α) : (innersOf ks cs).2.length ≤ 1 := by
  unfold innersOf
  split
  · simp
  · show ((ks.drop (cutAt ks)).take 1).length ≤ 1
    rw [List.length_take]; omega
theorem isz_few {ks : List (List UInt8)} (h : ∀ k ∈ ks, KeyFit k) : isz ks ≤ 6 + 45 * ks.length := by
  induction ks with
  | nil => decide
  | cons k r ih =>
    have := ih (fun x hx => h x (by simp [hx]))
    have hk := (h k (by simp)).2
    rw [isz_cons, List.length_cons]
    omega
/-- Kids and keys of an inner page, some of them replaced by a row. -/
theorem splice_fit {h a b : Nat} {ks : List (List UInt8)} {cs : List (Tr h)} {r : Row h} (hn : Fit (h + 1) (ks, cs)) (hr : RowFit h r) (hc : r.2.length ≤ 3) (hab : a + 1 ≤ b) (hb : b ≤ cs.length) :
    Becomes (h + 1) (if ks.take a ++ r.2 ++ ks.drop (b - 1) = [] then ([(([] : List (List UInt8)), cs.take a ++ r.1 ++ cs.drop b)], []) else innerRow (ks.take a ++ r.2 ++ ks.drop (b - 1)) (cs.take a ++ r.1 ++ cs.drop b)) := by
  obtain ⟨h1, h2, h3, h4, h5⟩ := hn
  obtain ⟨r1, r2, r3⟩ := hr
  dsimp only at h1 h2 h3 h4 h5
  have hkids : ∀ t ∈ cs.take a ++ r.1 ++ cs.drop b, Fit h t := by
    intro t ht
    rcases List.mem_append.1 ht with ht | ht
    · rcases List.mem_append.1 ht with ht | ht
      · exact h5 t (List.mem_of_mem_take ht)
      · exact r3 t ht
    · exact h5 t (List.mem_of_mem_drop ht)
  have hlen : (cs.take a ++ r.1 ++ cs.drop b).length = (ks.take a ++ r.2 ++ ks.drop (b - 1)).length + 1 := by
    simp only [List.length_append, List.length_take, List.length_drop]
    omega
  split
  · next he =>
    refine .inr ⟨rfl, _, rfl, rfl, ?_⟩
    rw [he] at hlen
    obtain ⟨t, ht⟩ := List.length_eq_one_iff.1 hlen
    exact ⟨t, ht, hkids t (by rw [ht]; simp)⟩
  · next he =>
    refine .inl (innerRow_fit hlen he (fun k hk => ?_) hkids ?_)
    · rcases List.mem_append.1 hk with hk | hk
      · rcases List.mem_append.1 hk with hk | hk
        · exact h4 k (List.mem_of_mem_take hk)
        · exact r2 k hk
      · exact h4 k (List.mem_of_mem_drop hk)
    · have e1 := isz_append (ks.take a ++ r.2) (ks.drop (b - 1))
      have e2 := isz_append (ks.take a) r.2
      have e3 := isz_few r2
      have e4 := isz_append (ks.take a) (ks.drop a)
      rw [List.take_append_drop] at e4
      have e5 : isz (ks.drop (b - 1)) ≤ isz (ks.drop a) := by
        have e6 := isz_append ((ks.drop a).take (b - 1 - a)) ((ks.drop a).drop (b - 1 - a))
        rw [List.take_append_drop, List.drop_drop, show a + (b - 1 - a) = b - 1 by omega] at e6
        have : 6 ≤ isz ((ks.drop a).take (b - 1 - a)) := by unfold isz; omega
        omega
      omega
theorem together_few : (h : Nat) → (a : Tr h) → (key : List UInt8) → (b : Tr h) → Half h a → Half h b → pgsz h a + pgsz h b ≤ 256 + 85 → (together h a key b).2.length ≤ 3
  | 0, a, _, b, ha, hb, hs => by
    refine leavesOf_few (fun p hp => ?_) ?_
    · rcases List.mem_append.1 hp with hp | hp
      · exact ha.leaf p hp
      · exact hb.leaf p hp
    · have e : ∀ x y : List Pr, lsz (x ++ y) + 3 = lsz x + lsz y := fun x y => by simp [lsz]; omega
      have e' := e a b
      have hs' : lsz a + lsz b ≤ 256 + 85 := hs
      exact Nat.le_trans (show lsz (List.append a b) ≤ 341 from by have e'' : lsz (List.append a b) + 3 = lsz a + lsz b := e'; omega) (by omega)
  | h + 1, a, key, b, _, _, _ => Nat.le_trans (innersOf_few _ _) (by omega)
theorem Fit.size : (h : Nat) → (t : Tr h) → Fit h t → pgsz h t ≤ 256
  | 0, _, h => h.1
  | _ + 1, _, h => h.2.2.1
theorem OneKid.small : (h : Nat) → (t : Tr h) → OneKid h t → pgsz h t < 85
  | 0, ps, h => by
    show lsz ps < 85
    have h' : ps = [] := h
    rw [h']; decide
  | _ + 1, t, h => by
    show isz t.1 < 85
    rw [h.1]; decide
/-- The root: a leaf may have no pair. -/
def RFit : (h : Nat) → Tr h → Prop
  | 0, (ps : List Pr) => lsz ps ≤ 256 ∧ ∀ p ∈ ps, PrFit p
  | h + 1, n => Fit (h + 1) n
theorem Fit.root : (h : Nat) → (t : Tr h) → Fit h t → RFit h t
  | 0, _, h => ⟨h.1, h.2.2⟩
  | _ + 1, _, h => h
/-- What becomes of a page whose kid became others. -/
theorem replaced_fit {h i : Nat} {ks : List (List UInt8)} {cs : List (Tr h)} {r : Row h} (hn : Fit (h + 1) (ks, cs)) (hi : i ≤ ks.length) (hr : Becomes h r) (hc : r.2.length ≤ 3) : Becomes (h + 1) (replaced ks cs i r) ∧ (replaced ks cs i r).2.length ≤ 3 := by
  have hcs : cs.length = ks.length + 1 := hn.1
  have few : (replaced ks cs i r).2.length ≤ 3 := by
    unfold replaced
    dsimp only
    split
    · simp
    · exact Nat.le_trans (innersOf_few _ _) (by omega)
  refine ⟨?_, few⟩
  have hpg : ∀ pg, lone r = some pg → Half h pg ∧ pgsz h pg < 85 := by
    intro pg hl
    have h1 := lone_some hl
    refine ⟨?_, ?_⟩
    · rcases hr with hr | ⟨_, t, ht, ho⟩
      · exact .inl (hr.2.2 pg (by rw [h1]; simp))
      · rw [h1] at ht
        injection ht with ht
        subst ht
        exact .inr ho
    · unfold lone at hl
      split at hl
      · next x hx =>
        split at hl
        · next hlt => injection hl with hl; subst hl; exact hlt
        · cases hl
      · cases hl
  have hnone : lone r = none → RowFit h r := by
    intro hl
    rcases hr with hr | ⟨_, t, ht, ho⟩
    · exact hr
    · exfalso
      unfold lone at hl
      rw [ht] at hl
      have := OneKid.small h t ho
      simp only at hl
      rw [if_pos (by omega)] at hl
      cases hl
  unfold replaced spliced
  cases hl : lone r with
  | none => exact splice_fit hn (hnone hl) hc (Nat.le_refl _) (by show i + 1 ≤ cs.length; omega)
  | some pg =>
    obtain ⟨hh, hs⟩ := hpg pg hl
    dsimp only
    by_cases h0 : 0 < i
    · obtain ⟨left, h1⟩ : ∃ x, cs[i - 1]? = some x := ⟨_, List.getElem?_eq_getElem (by omega)⟩
      obtain ⟨key, h2⟩ : ∃ x, ks[i - 1]? = some x := ⟨_, List.getElem?_eq_getElem (by omega)⟩
      have hlf : Fit h left := hn.2.2.2.2 left (List.mem_of_getElem? h1)
      have hkf : KeyFit key := hn.2.2.2.1 key (List.mem_of_getElem? h2)
      have hsz := Fit.size h left hlf
      rw [if_pos h0, h1, h2]
      exact splice_fit hn (together_fit h left key pg (.inl hlf) hh (.inl hlf) hkf (by omega)) (together_few h left key pg (.inl hlf) hh (by omega)) (by dsimp only; omega) (by dsimp only; omega)
    · obtain rfl : i = 0 := by omega
      have hks : 0 < ks.length := List.length_pos_iff.2 hn.2.1
      obtain ⟨nx, h1⟩ : ∃ x, cs[0 + 1]? = some x := ⟨_, List.getElem?_eq_getElem (by omega)⟩
      obtain ⟨key, h2⟩ : ∃ x, ks[0]? = some x := ⟨_, List.getElem?_eq_getElem hks⟩
      have hlf : Fit h nx := hn.2.2.2.2 nx (List.mem_of_getElem? h1)
      have hkf : KeyFit key := hn.2.2.2.1 key (List.mem_of_getElem? h2)
      have hsz := Fit.size h nx hlf
      rw [if_neg h0, h1, h2]
      exact splice_fit hn (together_fit h pg key nx hh (.inl hlf) (.inr hlf) hkf (by omega)) (together_few h pg key nx hh (.inl hlf) (by omega)) (by dsimp only; omega) (by dsimp only; omega)
/-- What becomes of a tree whose leaf becomes another. -/
theorem changed_fit {f : List Pr → List Pr} (k : List UInt8) (hf : ∀ ps : List Pr, RFit 0 ps → (∀ p ∈ f ps, PrFit p) ∧ lsz (f ps) ≤ 400) : (h : Nat) → (t : Tr h) → RFit h t → Becomes h (changed f k h t) ∧ (changed f k h t).2.length ≤ 3
  | 0, ps, ht => by
    obtain ⟨h1, h3⟩ := hf ps ht
    refine ⟨?_, leavesOf_few h1 h3⟩
    by_cases h2 : f ps = []
    · refine .inr ?_
      show (leavesOf (f ps)).2 = [] ∧ ∃ t, (leavesOf (f ps)).1 = [t] ∧ t = []
      rw [h2]
      exact ⟨rfl, [], rfl, rfl⟩
    · exact .inl (leafRow_fit h1 h2)
  | h + 1, n, ht => by
    have hw := wayOf_le n.1 k
    have hl : n.2.length = n.1.length + 1 := ht.1
    obtain ⟨t, hk⟩ : ∃ t, n.2[wayOf n.1 k]? = some t := ⟨_, List.getElem?_eq_getElem (by omega)⟩
    obtain ⟨h1, h2⟩ := changed_fit k hf h t (Fit.root h t (ht.2.2.2.2 t (List.mem_of_getElem? hk)))
    rw [changed_kid hk]
    exact replaced_fit ht hw h1 h2
end Pl
end Go.Proofs.YtljmklohgpaopaaGreatDoor

namespace Go.Proofs.YtljmklohgpaopaaGreatDoor
namespace Pl

theorem u8_irr : Std.Irrefl (α := UInt8) (· < ·) := ⟨fun a h => by simp at h⟩
theorem u8_trans {a b c : UInt8} (h : a < b) (k : b < c) : a < c := by rw [UInt8.lt_iff_toNat_lt] at *; omega
theorem u8_tri : Std.Trichotomous (· < · : UInt8 → UInt8 → Prop) := ⟨fun a b h k => by rw [UInt8.lt_iff_toNat_lt] at *; exact UInt8.toNat_inj.1 (by omega)⟩
abbrev Key := List UInt8
theorem kirr (a : Key) : ¬ a < a := by
  haveI := u8_irr
  exact List.lt_irrefl a
theorem ktrans {a b c : Key} (h : a < b) (k : b < c) : a < c := by
  haveI : Trans (· < · : UInt8 → UInt8 → Prop) (· < ·) (· < ·) := ⟨u8_trans⟩
  exact List.lt_trans h k
theorem ktri {a b : Key} (h : ¬ a < b) (k : ¬ b < a) : a = b := by
  haveI := u8_tri
  exact List.le_antisymm (by exact k) (by exact h)
theorem kle_lt {a b c : Key} (h : ¬ b < a) (k : b < c) : a < c := by
  rcases Decidable.em (a < b) with h' | h'
  · exact ktrans h' k
  · rw [ktri h' h]; exact k
theorem klt_le {a b c : Key} (h : a < b) (k : ¬ c < b) : a < c := by
  rcases Decidable.em (b < c) with h' | h'
  · exact ktrans h h'
  · rw [← ktri h' k]; exact h
theorem kasymm {a b : Key} (h : a < b) : ¬ b < a := fun k => kirr a (ktrans h k)
theorem kne {a b : Key} (h : a < b) : a ≠ b := fun e => kirr b (e ▸ h)
theorem knil (a : Key) : ¬ a < [] := List.not_lt_nil a

/-- A key lies from lo on, ahead of hi. -/
def InS (lo : Key) (hi : Option Key) (k : Key) : Prop := ¬ k < lo ∧ ∀ x, hi = some x → k < x
def Below_ (hi : Option Key) (k : Key) : Prop := ∀ x, hi = some x → k < x
def Srt (ps : List Pr) : Prop := ps.Pairwise (fun a b => a.key < b.key)
/-- Things side by side, and the keys between them. -/
def SpnK {α : Type} (P : Key → Option Key → α → Prop) : Key → Option Key → List Key → List α → Prop
  | lo, hi, [], [t] => P lo hi t
  | lo, hi, k :: ks, t :: ts => lo < k ∧ Below_ hi k ∧ P lo (some k) t ∧ SpnK P k hi ks ts
  | _, _, _, _ => False
def Spn : (h : Nat) → Key → Option Key → Tr h → Prop
  | 0, lo, hi, (ps : List Pr) => Srt ps ∧ ∀ p ∈ ps, InS lo hi p.key
  | h + 1, lo, hi, (n : List Key × List (Tr h)) => SpnK (Spn h) lo hi n.1 n.2
def RSpn {h : Nat} (lo : Key) (hi : Option Key) (r : Row h) : Prop := SpnK (Spn h) lo hi r.2 r.1
section
variable {α : Type} {P : Key → Option Key → α → Prop} {lo : Key} {hi : Option Key}
theorem SpnK.len : ∀ {ks : List Key} {cs : List α} {lo : Key}, SpnK P lo hi ks cs → cs.length = ks.length + 1
  | [], [], _, h => h.elim
  | [], [_], _, _ => rfl
  | [], _ :: _ :: _, _, h => h.elim
  | _ :: _, [], _, h => h.elim
  | k :: ks, t :: ts, _, h => by rw [List.length_cons, List.length_cons, SpnK.len h.2.2.2]
theorem SpnK.keys : ∀ {ks : List Key} {cs : List α} {lo : Key}, SpnK P lo hi ks cs → ks.Pairwise (· < ·) ∧ ∀ k ∈ ks, lo < k ∧ Below_ hi k
  | [], _, _, _ => ⟨List.Pairwise.nil, fun k hk => by cases hk⟩
  | _ :: _, [], _, h => h.elim
  | k :: ks, t :: ts, lo, h => by
    obtain ⟨h1, h2, _, h4⟩ := h
    obtain ⟨g1, g2⟩ := SpnK.keys h4
    refine ⟨List.Pairwise.cons (fun x hx => (g2 x hx).1) g1, fun x hx => ?_⟩
    rcases List.mem_cons.1 hx with rfl | hx
    · exact ⟨h1, h2⟩
    · exact ⟨ktrans h1 (g2 x hx).1, (g2 x hx).2⟩
def kLo : Key → List Key → Nat → Key
  | lo, _, 0 => lo
  | lo, [], _ + 1 => lo
  | _, k :: ks, i + 1 => kLo k ks i
def kHi (hi : Option Key) (ks : List Key) (i : Nat) : Option Key := match ks[i]? with | some k => some k | none => hi
theorem kLo_zero (lo : Key) (ks : List Key) : kLo lo ks 0 = lo := by cases ks <;> simp [kLo]
theorem kLo_get : ∀ {lo : Key} {ks : List Key} {i : Nat} {k : Key}, ks[i]? = some k → kLo lo ks (i + 1) = k
  | _, [], _, _, h => by simp at h
  | _, x :: ks, 0, k, h => by
    have : x = k := by simpa using h
    rw [← this]
    exact kLo_zero x ks
  | _, x :: ks, i + 1, k, h => kLo_get (lo := x) (ks := ks) (i := i) (by simpa using h)
theorem kHi_get {ks : List Key} {i : Nat} {k : Key} (h : ks[i]? = some k) : kHi hi ks i = some k := by unfold kHi; rw [h]
theorem kHi_end {ks : List Key} {i : Nat} (h : ks.length ≤ i) : kHi hi ks i = hi := by unfold kHi; rw [List.getElem?_eq_none h]
/-- The first of things side by side are left out, and others may follow. -/
theorem SpnK.head : ∀ (k1 : List Key) (c1 : List α) {lo : Key} {ks : List Key} {cs : List α}, k1.length = c1.length → SpnK P lo hi (k1 ++ ks) (c1 ++ cs) →
    SpnK P (kLo lo k1 k1.length) hi ks cs ∧ ∀ ks' cs', SpnK P (kLo lo k1 k1.length) hi ks' cs' → SpnK P lo hi (k1 ++ ks') (c1 ++ cs')
  | [], [], _, _, _, _, h => ⟨h, fun _ _ h' => h'⟩
  | [], _ :: _, _, _, _, hl, _ => by simp at hl
  | _ :: _, [], _, _, _, hl, _ => by simp at hl
  | k :: k1, c :: c1, lo, ks, cs, hl, h => by
    obtain ⟨h1, h2, h3, h4⟩ := h
    obtain ⟨g1, g2⟩ := SpnK.head k1 c1 (by simpa using hl) h4
    exact ⟨g1, fun ks' cs' h' => ⟨h1, h2, h3, g2 ks' cs' h'⟩⟩
theorem SpnK.narrow_keys (k : Key) : ∀ {km : List Key} {cm : List α} {lo : Key}, Below_ hi k → SpnK P lo (some k) km cm → ∀ (ks : List Key) (cs : List α), SpnK P k hi ks cs → lo < k → SpnK P lo hi (km ++ k :: ks) (cm ++ cs)
  | [], [c], lo, hk, h, ks, cs, h', hlo => ⟨hlo, hk, h, h'⟩
  | [], [], _, _, h, _, _, _, _ => h.elim
  | [], _ :: _ :: _, _, _, h, _, _, _, _ => h.elim
  | _ :: _, [], _, _, h, _, _, _, _ => h.elim
  | x :: km, c :: cm, lo, hk, h, ks, cs, h', hlo => by
    obtain ⟨h1, h2, h3, h4⟩ := h
    have hx : x < k := h2 k rfl
    exact ⟨h1, fun y hy => ktrans hx (hk y hy), h3, SpnK.narrow_keys k hk h4 ks cs h' hx⟩
/-- Two runs that stood side by side. -/
theorem SpnK.join {k : Key} {ka kb : List Key} {ca cb : List α} (ha : SpnK P lo (some k) ka ca) (hb : SpnK P k hi kb cb) (h1 : lo < k) (h2 : Below_ hi k) : SpnK P lo hi (ka ++ k :: kb) (ca ++ cb) := SpnK.narrow_keys k h2 ha kb cb hb h1
/-- A run is parted at a key. -/
theorem SpnK.part : ∀ (ka : List Key) (ca : List α) {lo k : Key} {kb : List Key} {cb : List α}, ca.length = ka.length + 1 → SpnK P lo hi (ka ++ k :: kb) (ca ++ cb) → SpnK P lo (some k) ka ca ∧ SpnK P k hi kb cb ∧ lo < k ∧ Below_ hi k
  | [], [c], _, _, _, _, _, h => ⟨h.2.2.1, h.2.2.2, h.1, h.2.1⟩
  | [], [], _, _, _, _, hl, _ => by simp at hl
  | [], _ :: _ :: _, _, _, _, _, hl, _ => by simp at hl
  | _ :: _, [], _, _, _, _, hl, _ => by simp at hl
  | x :: ka, c :: ca, lo, k, kb, cb, hl, h => by
    obtain ⟨h1, h2, h3, h4⟩ := h
    obtain ⟨g1, g2, g3, g4⟩ := SpnK.part ka ca (by simpa using hl) h4
    exact ⟨⟨h1, fun y hy => by injection hy with hy; exact hy ▸ g3, h3, g1⟩, g2, ktrans h1 g3, g4⟩
/-- A thing among others, and where it lies. -/
theorem SpnK.at_ : ∀ {ks : List Key} {cs : List α} {lo : Key} (i : Nat) (c : α), SpnK P lo hi ks cs → cs[i]? = some c → P (kLo lo ks i) (kHi hi ks i) c
  | [], [], _, _, _, h, _ => h.elim
  | [], [t], _, 0, c, h, hc => by
    have : t = c := by simpa using hc
    exact this ▸ h
  | [], [t], _, i + 1, c, h, hc => by simp at hc
  | [], _ :: _ :: _, _, _, _, h, _ => h.elim
  | _ :: _, [], _, _, _, h, _ => h.elim
  | k :: ks, t :: ts, lo, 0, c, h, hc => by
    have : t = c := by simpa using hc
    exact this ▸ h.2.2.1
  | k :: ks, t :: ts, lo, i + 1, c, h, hc => by
    have := SpnK.at_ i c h.2.2.2 (by simpa using hc)
    have e : kHi hi (k :: ks) (i + 1) = kHi hi ks i := by unfold kHi; simp
    rw [e]
    exact this
/-- Some things side by side make room for others. -/
theorem SpnK.splice {ks rk : List Key} {cs rc : List α} (h : SpnK P lo hi ks cs) (a b : Nat) (hab : a < b) (hb : b ≤ cs.length) (hr : SpnK P (kLo lo ks a) (kHi hi ks (b - 1)) rk rc) :
    SpnK P lo hi (ks.take a ++ rk ++ ks.drop (b - 1)) (cs.take a ++ rc ++ cs.drop b) := by
  have hl := h.len
  have e1 : ks.take a ++ ks.drop a = ks := List.take_append_drop a ks
  have e2 : cs.take a ++ cs.drop a = cs := List.take_append_drop a cs
  have hlen : (ks.take a).length = (cs.take a).length := by rw [List.length_take, List.length_take]; omega
  have htl : (ks.take a).length = a := by rw [List.length_take]; omega
  have hh := h
  rw [← e1, ← e2] at hh
  obtain ⟨_, g2⟩ := SpnK.head _ _ hlen hh
  have hlo : kLo lo (ks.take a) (ks.take a).length = kLo lo ks a := by
    rw [htl]
    cases a with
    | zero => rw [kLo_zero, kLo_zero]
    | succ a =>
      obtain ⟨x, hx⟩ : ∃ x, ks[a]? = some x := ⟨_, List.getElem?_eq_getElem (by omega)⟩
      rw [kLo_get hx, kLo_get (by rw [List.getElem?_take_of_lt (by omega)]; exact hx)]
  rw [hlo] at g2
  rw [List.append_assoc, List.append_assoc]
  refine g2 _ _ ?_
  by_cases hbe : b = cs.length
  · have : ks.drop (b - 1) = [] := List.drop_eq_nil_iff.2 (by omega)
    rw [this, List.append_nil, hbe, List.drop_length, List.append_nil]
    rw [kHi_end (by omega)] at hr
    exact hr
  · obtain ⟨k, hk⟩ : ∃ x, ks[b - 1]? = some x := ⟨_, List.getElem?_eq_getElem (by omega)⟩
    rw [kHi_get hk] at hr
    have hd : ks.drop (b - 1) = k :: ks.drop b := by
      obtain ⟨hlt, rfl⟩ := List.getElem?_eq_some_iff.1 hk
      rw [List.drop_eq_getElem_cons hlt, show b - 1 + 1 = b by omega]
    rw [hd]
    have hp := h
    rw [← List.take_append_drop (b - 1) ks, hd, ← List.take_append_drop b cs] at hp
    obtain ⟨_, p2, _, p4⟩ := SpnK.part (ks.take (b - 1)) (cs.take b) (by rw [List.length_take, List.length_take]; omega) hp
    refine SpnK.join hr p2 ?_ p4
    have hkk := h.keys
    cases a with
    | zero => rw [kLo_zero]; exact (hkk.2 k (List.mem_of_getElem? hk)).1
    | succ a =>
      obtain ⟨x, hx⟩ : ∃ x, ks[a]? = some x := ⟨_, List.getElem?_eq_getElem (by omega)⟩
      rw [kLo_get hx]
      obtain ⟨i1, rfl⟩ := List.getElem?_eq_some_iff.1 hx
      obtain ⟨i2, rfl⟩ := List.getElem?_eq_some_iff.1 hk
      exact List.pairwise_iff_getElem.1 hkk.1 a (b - 1) i1 i2 (by omega)
/-- Which thing a key lies in. -/
theorem SpnK.way : ∀ {ks : List Key} {cs : List α} {lo : Key} (k : Key), SpnK P lo hi ks cs → InS lo hi k → InS (kLo lo ks (wayOf ks k)) (kHi hi ks (wayOf ks k)) k
  | [], _, _, k, _, hk => hk
  | _ :: _, [], _, _, h, _ => h.elim
  | x :: ks, c :: cs, lo, k, h, hk => by
    unfold wayOf
    rw [List.takeWhile_cons]
    by_cases hx : k < x
    · rw [if_neg (by simp [hx])]
      exact ⟨hk.1, fun y hy => by have : x = y := by simpa [kHi] using hy
                                  exact this ▸ hx⟩
    · rw [if_pos (by simp [hx])]
      have ih := SpnK.way k h.2.2.2 ⟨hx, hk.2⟩
      rw [List.length_cons]
      have e : kHi hi (x :: ks) ((ks.takeWhile fun y => !decide (k < y)).length + 1) = kHi hi ks ((ks.takeWhile fun y => !decide (k < y)).length) := by unfold kHi; simp
      rw [e]
      exact ih
end
theorem leafRow_spn {lo : Key} {hi : Option Key} : ∀ (all : Nat) (ps now : List Pr) (size : Nat), Spn 0 lo hi (now ++ ps) → SpnK (Spn 0) lo hi (lv all ps now size).2 (lv all ps now size).1
  | _, [], now, _, h => by
    have h' : Spn 0 lo hi now := by rw [List.append_nil] at h; exact h
    exact h'
  | all, p :: r, now, size, h => by
    unfold lv
    split
    · next hc =>
      obtain ⟨h1, h2⟩ := h
      obtain ⟨s1, s2, s3⟩ := List.pairwise_append.1 h1
      obtain ⟨q, t, hq⟩ := List.exists_cons_of_ne_nil hc.2
      have hqp : q.key < p.key := s3 q (by rw [hq]; simp) p (by simp)
      refine ⟨kle_lt (h2 q (by rw [hq]; simp)).1 hqp, (h2 p (by simp)).2, ⟨s1, fun x hx => ⟨(h2 x (by simp [hx])).1, fun y hy => ?_⟩⟩, leafRow_spn all r [p] _ ⟨s2, fun x hx => ⟨?_, (h2 x (List.mem_append_right _ hx)).2⟩⟩⟩
      · injection hy with hy; rw [← hy]; exact s3 x hx p (by simp)
      · rcases List.mem_cons.1 hx with rfl | hx
        · exact kirr _
        · exact kasymm ((List.pairwise_cons.1 s2).1 x hx)
    · exact leafRow_spn all r (now ++ [p]) _ (by rw [List.append_assoc]; exact h)
theorem innerRow_spn {h : Nat} {lo : Key} {hi : Option Key} {ks : List Key} {cs : List (Tr h)} (hk : ∀ k ∈ ks, KeyFit k) (hs : isz ks ≤ 420) (h' : SpnK (Spn h) lo hi ks cs) : RSpn lo hi (innerRow ks cs) := by
  unfold RSpn innerRow innersOf
  split
  · exact h'
  · next h1 =>
    obtain ⟨g1, g2, _, _⟩ := cutAt_spec (fun k hk' => (hk k hk').2) (by omega) hs
    have hl := h'.len
    obtain ⟨k, hx⟩ : ∃ x, ks[cutAt ks]? = some x := ⟨_, List.getElem?_eq_getElem (by omega)⟩
    have hd : ks.drop (cutAt ks) = k :: ks.drop (cutAt ks + 1) := by
      obtain ⟨hlt, rfl⟩ := List.getElem?_eq_some_iff.1 hx
      rw [List.drop_eq_getElem_cons hlt]
    have hp := h'
    rw [← List.take_append_drop (cutAt ks) ks, hd, ← List.take_append_drop (cutAt ks + 1) cs] at hp
    obtain ⟨p1, p2, p3, p4⟩ := SpnK.part (ks.take (cutAt ks)) (cs.take (cutAt ks + 1)) (by rw [List.length_take, List.length_take]; omega) hp
    rw [hd]
    exact ⟨p3, p4, p1, p2⟩
theorem together_spn : (h : Nat) → (a : Tr h) → (key : Key) → (b : Tr h) → {lo : Key} → {hi : Option Key} → Half h a → Half h b → KeyFit key → pgsz h a + pgsz h b ≤ 256 + 85 → Spn h lo (some key) a → Spn h key hi b → lo < key → Below_ hi key → RSpn lo hi (together h a key b)
  | 0, (a : List Pr), key, (b : List Pr), lo, hi, _, _, _, _, ha, hb, h1, h2 => by
    have key_ : Spn 0 lo hi ((a ++ b : List Pr)) := ⟨List.pairwise_append.2 ⟨ha.1, hb.1, fun x hx y hy => klt_le ((ha.2 x hx).2 key rfl) (hb.2 y hy).1⟩, fun x hx => by
      rcases List.mem_append.1 hx with hx | hx
      · exact ⟨(ha.2 x hx).1, fun y hy => ktrans ((ha.2 x hx).2 key rfl) (h2 y hy)⟩
      · exact ⟨fun h9 => (hb.2 x hx).1 (ktrans h9 h1), (hb.2 x hx).2⟩⟩
    exact leafRow_spn _ _ [] _ key_
  | h + 1, a, key, b, lo, hi, fa, fb, hk, hs, ha, hb, h1, h2 => by
    obtain ⟨a1, a2, a3, a4⟩ := fa.inner
    obtain ⟨b1, b2, b3, b4⟩ := fb.inner
    have e1 := isz_append a.1 (key :: b.1)
    rw [isz_cons] at e1
    have hs' : isz a.1 + isz b.1 ≤ 256 + 85 := hs
    refine innerRow_spn (fun k hk' => ?_) (by have := hk.2; omega) (SpnK.join ha hb h1 h2)
    rcases List.mem_append.1 hk' with hk' | hk'
    · exact a3 k hk'
    · rcases List.mem_cons.1 hk' with rfl | hk'
      · exact hk
      · exact b3 k hk'
end Pl
end Go.Proofs.YtljmklohgpaopaaGreatDoor
