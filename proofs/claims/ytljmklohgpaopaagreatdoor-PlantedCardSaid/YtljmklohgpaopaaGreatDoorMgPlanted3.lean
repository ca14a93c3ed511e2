/- Plain: keys in order, and where they lie: what a tree that Put makes keeps. No program in sight. Plain: a tree is a list of pairs in order: what Put and Delete make of it. No program in sight. -/
import Derived.Test.YtljmklohgpaopaaGreatDoorMgPlanted2
set_option linter.unusedVariables false
set_option linter.unusedSimpArgs false

namespace Go.Proofs.YtljmklohgpaopaaGreatDoor
namespace Pl

theorem u8_irr : Std.Irrefl (α := UInt8) (· < ·) := ⟨fun a h => by simp at h⟩
theorem u8_trans {a b c : UInt8} (h : a < b) (k : b < c) : a < c := by rw [UInt8.lt_iff_toNat_lt] at *; omega
theorem u8_tri : Std.Trichotomous (· < · : UInt8 → UInt8 → Prop) := ⟨fun a b h k => by rw [UInt8.lt_iff_toNat_lt] at *; exact UInt8.toNat_inj.1 (by omega)⟩
abbrev Key := List UInt8
theorem kirr (a : Key) : ¬ a < a := by
  haveI := u8_irr
  exact List.lt_irrefl a
theorem ktrans {a b c : Key} (h : a < b) (k : b < c) : a < c := by
  haveI : Trans (· < · : UInt8 → UInt8 → Prop) (· < ·) (· < ·) := ⟨u8_trans⟩
  exact List.lt_trans h k
theorem ktri {a b : Key} (h : ¬ a < b) (k : ¬ b < a) : a = b := by
  haveI := u8_tri
  exact List.le_antisymm (by exact k) (by exact h)
theorem kle_lt {a b c : Key} (h : ¬ b < a) (k : b < c) : a < c := by
  rcases Decidable.em (a < b) with h' | h'
  · exact ktrans h' k
  · rw [ktri h' h]; exact k
theorem klt_le {a b c : Key} (h : a < b) (k : ¬ c < b) : a < c := by
  rcases Decidable.em (b < c) with h' | h'
  · exact ktrans h h'
  · rw [← ktri h' k]; exact h
theorem kasymm {a b : Key} (h : a < b) : ¬ b < a := fun k => kirr a (ktrans h k)
theorem kne {a b : Key} (h : a < b) : a ≠ b := fun e => kirr b (e ▸ h)
theorem knil (a : Key) : ¬ a < [] := List.not_lt_nil a

/-- A key lies from lo on, ahead of hi. -/
def InS (lo : Key) (hi : Option Key) (k : Key) : Prop := ¬ k < lo ∧ ∀ x, hi = some x → k < x
def Below_ (hi : Option Key) (k : Key) : Prop := ∀ x, hi = some x → k < x
def Srt (ps : List Pr) : Prop := ps.Pairwise (fun a b => a.key < b.key)
/-- Things side by side, and the keys between them. -/
def SpnK {α : Type} (P : Key → Option Key → α → Prop) : Key → Option Key → List Key → List α → Prop
  | lo, hi, [], [t] => P lo hi t
  | lo, hi, k :: ks, t :: ts => lo < k ∧ Below_ hi k ∧ P lo (some k) t ∧ SpnK P k hi ks ts
  | _, _, _, _ => False
def Spn : (h : Nat) → Key → Option Key → Tr h → Prop
  | 0, lo, hi, (ps : List Pr) => Srt ps ∧ ∀ p ∈ ps, InS lo hi p.key
  | h + 1, lo, hi, (n : List Key × List (Tr h)) => SpnK (Spn h) lo hi n.1 n.2
def RSpn {h : Nat} (lo : Key) (hi : Option Key) (r : Row h) : Prop := SpnK (Spn h) lo hi r.2 r.1
section
variable {α : Type} {P : Key → Option Key → α → Prop} {lo : Key} {hi : Option Key}
theorem SpnK.len : ∀ {ks : List Key} {cs : List α} {lo : Key}, SpnK P lo hi ks cs → cs.length = ks.length + 1
  | [], [], _, h => h.elim
  | [], [_], _, _ => rfl
  | [], _ :: _ :: _, _, h => h.elim
  | _ :: _, [], _, h => h.elim
  | k :: ks, t :: ts, _, h => by rw [List.length_cons, List.length_cons, SpnK.len h.2.2.2]
theorem SpnK.keys : ∀ {ks : List Key} {cs : List α} {lo : Key}, SpnK P lo hi ks cs → ks.Pairwise (· < ·) ∧ ∀ k ∈ ks, lo < k ∧ Below_ hi k
  | [], _, _, _ => ⟨List.Pairwise.nil, fun k hk => by cases hk⟩
  | _ :: _, [], _, h => h.elim
  | k :: ks, t :: ts, lo, h => by
    obtain ⟨h1, h2, _, h4⟩ := h
    obtain ⟨g1, g2⟩ := SpnK.keys h4
    refine ⟨List.Pairwise.cons (fun x hx => (g2 x hx).1) g1, fun x hx => ?_⟩
    rcases List.mem_cons.1 hx with rfl | hx
    · exact ⟨h1, h2⟩
    · exact ⟨ktrans h1 (g2 x hx).1, (g2 x hx).2⟩
def kLo : Key → List Key → Nat → Key
  | lo, _, 0 => lo
  | lo, [], _ + 1 => lo
  | _, k :: ks, i + 1 => kLo k ks i
def kHi (hi : Option Key) (ks : List Key) (i : Nat) : Option Key := match ks[i]? with | some k => some k | none => hi
theorem kLo_zero (lo : Key) (ks : List Key) : kLo lo ks 0 = lo := by cases ks <;> simp [kLo]
theorem kLo_get : ∀ {lo : Key} {ks : List Key} {i : Nat} {k : Key}, ks[i]? = some k → kLo lo ks (i + 1) = k
  | _, [], _, _, h => by simp at h
  | _, x :: ks, 0, k, h => by
    have : x = k := by simpa using h
    rw [← this]
    exact kLo_zero x ks
  | _, x :: ks, i + 1, k, h => kLo_get (lo := x) (ks := ks) (i := i) (by simpa using h)
theorem kHi_get {ks : List Key} {i : Nat} {k : Key} (h : ks[i]? = some k) : kHi hi ks i = some k := by unfold kHi; rw [h]
theorem kHi_end {ks : List Key} {i : Nat} (h : ks.length ≤ i) : kHi hi ks i = hi := by unfold kHi; rw [List.getElem?_eq_none h]
/-- The first of things side by side are left out, and others may follow. -/
theorem SpnK.head : ∀ (k1 : List Key) (c1 : List α) {lo : Key} {ks : List Key} {cs : List α}, k1.length = c1.length → SpnK P lo hi (k1 ++ ks) (c1 ++ cs) →
    SpnK P (kLo lo k1 k1.length) hi ks cs ∧ ∀ ks' cs', SpnK P (kLo lo k1 k1.length) hi ks' cs' → SpnK P lo hi (k1 ++ ks') (c1 ++ cs')
  | [], [], _, _, _, _, h => ⟨h, fun _ _ h' => h'⟩
  | [], _ :: _, _, _, _, hl, _ => by simp at hl
  | _ :: _, [], _, _, _, hl, _ => by simp at hl
  | k :: k1, c :: c1, lo, ks, cs, hl, h => by
    obtain ⟨h1, h2, h3, h4⟩ := h
    obtain ⟨g1, g2⟩ := SpnK.head k1 c1 (by simpa using hl) h4
    exact ⟨g1, fun ks' cs' h' => ⟨h1, h2, h3, g2 ks' cs' h'⟩⟩
theorem SpnK.narrow_keys (k : Key) : ∀ {km : List Key} {cm : List α} {lo : Key}, Below_ hi k → SpnK P lo (some k) km cm → ∀ (ks : List Key) (cs : List α), SpnK P k hi ks cs → lo < k → SpnK P lo hi (km ++ k :: ks) (cm ++ cs)
  | [], [c], lo, hk, h, ks, cs, h', hlo => ⟨hlo, hk, h, h'⟩
  | [], [], _, _, h, _, _, _, _ => h.elim
  | [], _ :: _ :: _, _, _, h, _, _, _, _ => h.elim
  | _ :: _, [], _, _, h, _, _, _, _ => h.elim
  | x :: km, c :: cm, lo, hk, h, ks, cs, h', hlo => by
    obtain ⟨h1, h2, h3, h4⟩ := h
    have hx : x < k := h2 k rfl
    exact ⟨h1, fun y hy => ktrans hx (hk y hy), h3, SpnK.narrow_keys k hk h4 ks cs h' hx⟩
/-- Two runs that stood side by side. -/
theorem SpnK.join {k : Key} {ka kb : List Key} {ca cb : List α} (ha : SpnK P lo (some k) ka ca) (hb : SpnK P k hi kb cb) (h1 : lo < k) (h2 : Below_ hi k) : SpnK P lo hi (ka ++ k :: kb) (ca ++ cb) := SpnK.narrow_keys k h2 ha kb cb hb h1
/-- A run is parted at a key. -/
theorem SpnK.part : ∀ (ka : List Key) (ca : List α) {lo k : Key} {kb : List Key} {cb : List α}, ca.length = ka.length + 1 → SpnK P lo hi (ka ++ k :: kb) (ca ++ cb) → SpnK P lo (some k) ka ca ∧ SpnK P k hi kb cb ∧ lo < k ∧ Below_ hi k
  | [], [c], _, _, _, _, _, h => ⟨h.2.2.1, h.2.2.2, h.1, h.2.1⟩
  | [], [], _, _, _, _, hl, _ => by simp at hl
  | [], _ :: _ :: _, _, _, _, _, hl, _ => by simp at hl
  | _ :: _, [], _, _, _, _, hl, _ => by simp at hl
  | x :: ka, c :: ca, lo, k, kb, cb, hl, h => by
    obtain ⟨h1, h2, h3, h4⟩ := h
    obtain ⟨g1, g2, g3, g4⟩ := SpnK.part ka ca (by simpa using hl) h4
    exact ⟨⟨h1, fun y hy => by injection hy with hy; exact hy ▸ g3, h3, g1⟩, g2, ktrans h1 g3, g4⟩
/-- A thing among others, and where it lies. -/
theorem SpnK.at_ : ∀ {ks : List Key} {cs : List α} {lo : Key} (i : Nat) (c : α), SpnK P lo hi ks cs → cs[i]? = some c → P (kLo lo ks i) (kHi hi ks i) c
  | [], [], _, _, _, h, _ => h.elim
  | [], [t], _, 0, c, h, hc => by
    have : t = c := by simpa using hc
    exact this ▸ h
  | [], [t], _, i + 1, c, h, hc => by simp at hc
  | [], _ :: _ :: _, _, _, _, h, _ => h.elim
  | _ :: _, [], _, _, _, h, _ => h.elim
  | k :: ks, t :: ts, lo, 0, c, h, hc => by
    have : t = c := by simpa using hc
    exact this ▸ h.2.2.1
  | k :: ks, t :: ts, lo, i + 1, c, h, hc => by
    have := SpnK.at_ i c h.2.2.2 (by simpa using hc)
    have e : kHi hi (k :: ks) (i + 1) = kHi hi ks i := by unfold kHi; simp
    rw [e]
    exact this
/-- Some things side by side make room for others. -/
theorem SpnK.splice {ks rk : List Key} {cs rc : List α} (h : SpnK P lo hi ks cs) (a b : Nat) (hab : a < b) (hb : b ≤ cs.length) (hr : SpnK P (kLo lo ks a) (kHi hi ks (b - 1)) rk rc) :
    SpnK P lo hi (ks.take a ++ rk ++ ks.drop (b - 1)) (cs.take a ++ rc ++ cs.drop b) := by
  have hl := h.len
  have e1 : ks.take a ++ ks.drop a = ks := List.take_append_drop a ks
  have e2 : cs.take a ++ cs.drop a = cs := List.take_append_drop a cs
  have hlen : (ks.take a).length = (cs.take a).length := by rw [List.length_take, List.length_take]; omega
  have htl : (ks.take a).length = a := by rw [List.length_take]; omega
  have hh := h
  rw [← e1, ← e2] at hh
  obtain ⟨_, g2⟩ := SpnK.head _ _ hlen hh
  have hlo : kLo lo (ks.take a) (ks.take a).length = kLo lo ks a := by
    rw [htl]
    cases a with
    | zero => rw [kLo_zero, kLo_zero]
    | succ a =>
      obtain ⟨x, hx⟩ : ∃ x, ks[a]? = some x := ⟨_, List.getElem?_eq_getElem (by omega)⟩
      rw [kLo_get hx, kLo_get (by rw [List.getElem?_take_of_lt (by omega)]; exact hx)]
  rw [hlo] at g2
  rw [List.append_assoc, List.append_assoc]
  refine g2 _ _ ?_
  by_cases hbe : b = cs.length
  · have : ks.drop (b - 1) = [] := List.drop_eq_nil_iff.2 (by omega)
    rw [this, List.append_nil, hbe, List.drop_length, List.append_nil]
    rw [kHi_end (by omega)] at hr
    exact hr
  · obtain ⟨k, hk⟩ : ∃ x, ks[b - 1]? = some x := ⟨_, List.getElem?_eq_getElem (by omega)⟩
    rw [kHi_get hk] at hr
    have hd : ks.drop (b - 1) = k :: ks.drop b := by
      obtain ⟨hlt, rfl⟩ := List.getElem?_eq_some_iff.1 hk
      rw [List.drop_eq_getElem_cons hlt, show b - 1 + 1 = b by omega]
    rw [hd]
    have hp := h
    rw [← List.take_append_drop (b - 1) ks, hd, ← List.take_append_drop b cs] at hp
    obtain ⟨_, p2, _, p4⟩ := SpnK.part (ks.take (b - 1)) (cs.take b) (by rw [List.length_take, List.length_take]; omega) hp
    refine SpnK.join hr p2 ?_ p4
    have hkk := h.keys
    cases a with
    | zero => rw [kLo_zero]; exact (hkk.2 k (List.mem_of_getElem? hk)).1
    | succ a =>
      obtain ⟨x, hx⟩ : ∃ x, ks[a]? = some x := ⟨_, List.getElem?_eq_getElem (by omega)⟩
      rw [kLo_get hx]
      obtain ⟨i1, rfl⟩ := List.getElem?_eq_some_iff.1 hx
      obtain ⟨i2, rfl⟩ := List.getElem?_eq_some_iff.1 hk
      exact List.pairwise_iff_getElem.1 hkk.1 a (b - 1) i1 i2 (by omega)
/-- Which thing a key lies in. -/
theorem SpnK.way : ∀ {ks : List Key} {cs : List α} {lo : Key} (k : Key), SpnK P lo hi ks cs → InS lo hi k → InS (kLo lo ks (wayOf ks k)) (kHi hi ks (wayOf ks k)) k
  | [], _, _, k, _, hk => hk
  | _ :: _, [], _, _, h, _ => h.elim
  | x :: ks, c :: cs, lo, k, h, hk => by
    unfold wayOf
    rw [List.takeWhile_cons]
    by_cases hx : k < x
    · rw [if_neg (by simp [hx])]
      exact ⟨hk.1, fun y hy => by have : x = y := by simpa [kHi] using hy
                                  exact this ▸ hx⟩
    · rw [if_pos (by simp [hx])]
      have ih := SpnK.way k h.2.2.2 ⟨hx, hk.2⟩
      rw [List.length_cons]
      have e : kHi hi (x :: ks) ((ks.takeWhile fun y => !decide (k < y)).length + 1) = kHi hi ks ((ks.takeWhile fun y => !decide (k < y)).length) := by unfold kHi; simp
      rw [e]
      exact ih
end
theorem leafRow_spn {lo : Key} {hi : Option Key} : ∀ (all : Nat) (ps now : List Pr) (size : Nat), Spn 0 lo hi (now ++ ps) → SpnK (Spn 0) lo hi (lv all ps now size).2 (lv all ps now size).1
  | _, [], now, _, h => by
    have h' : Spn 0 lo hi now := by rw [List.append_nil] at h; exact h
    exact h'
  | all, p :: r, now, size, h => by
    unfold lv
    split
    · next hc =>
      obtain ⟨h1, h2⟩ := h
      obtain ⟨s1, s2, s3⟩ := List.pairwise_append.1 h1
      obtain ⟨q, t, hq⟩ := List.exists_cons_of_ne_nil hc.2
      have hqp : q.key < p.key := s3 q (by rw [hq]; simp) p (by simp)
      refine ⟨kle_lt (h2 q (by rw [hq]; simp)).1 hqp, (h2 p (by simp)).2, ⟨s1, fun x hx => ⟨(h2 x (by simp [hx])).1, fun y hy => ?_⟩⟩, leafRow_spn all r [p] _ ⟨s2, fun x hx => ⟨?_, (h2 x (List.mem_append_right _ hx)).2⟩⟩⟩
      · injection hy with hy; rw [← hy]; exact s3 x hx p (by simp)
      · rcases List.mem_cons.1 hx with rfl | hx
        · exact kirr _
        · exact kasymm ((List.pairwise_cons.1 s2).1 x hx)
    · exact leafRow_spn all r (now ++ [p]) _ (by rw [List.append_assoc]; exact h)
theorem innerRow_spn {h : Nat} {lo : Key} {hi : Option Key} {ks : List Key} {cs : List (Tr h)} (hk : ∀ k ∈ ks, KeyFit k) (hs : isz ks ≤ 420) (h' : SpnK (Spn h) lo hi ks cs) : RSpn lo hi (innerRow ks cs) := by
  unfold RSpn innerRow innersOf
  split
  · exact h'
  · next h1 =>
    obtain ⟨g1, g2, _, _⟩ := cutAt_spec (fun k hk' => (hk k hk').2) (by omega) hs
    have hl := h'.len
    obtain ⟨k, hx⟩ : ∃ x, ks[cutAt ks]? = some x := ⟨_, List.getElem?_eq_getElem (by omega)⟩
    have hd : ks.drop (cutAt ks) = k :: ks.drop (cutAt ks + 1) := by
      obtain ⟨hlt, rfl⟩ := List.getElem?_eq_some_iff.1 hx
      rw [List.drop_eq_getElem_cons hlt]
    have hp := h'
    rw [← List.take_append_drop (cutAt ks) ks, hd, ← List.take_append_drop (cutAt ks + 1) cs] at hp
    obtain ⟨p1, p2, p3, p4⟩ := SpnK.part (ks.take (cutAt ks)) (cs.take (cutAt ks + 1)) (by rw [List.length_take, List.length_take]; omega) hp
    rw [hd]
    exact ⟨p3, p4, p1, p2⟩
theorem together_spn : (h : Nat) → (a : Tr h) → (key : Key) → (b : Tr h) → {lo : Key} → {hi : Option Key} → Half h a → Half h b → KeyFit key → pgsz h a + pgsz h b ≤ 256 + 85 → Spn h lo (some key) a → Spn h key hi b → lo < key → Below_ hi key → RSpn lo hi (together h a key b)
  | 0, (a : List Pr), key, (b : List Pr), lo, hi, _, _, _, _, ha, hb, h1, h2 => by
    have key_ : Spn 0 lo hi ((a ++ b : List Pr)) := ⟨List.pairwise_append.2 ⟨ha.1, hb.1, fun x hx y hy => klt_le ((ha.2 x hx).2 key rfl) (hb.2 y hy).1⟩, fun x hx => by
      rcases List.mem_append.1 hx with hx | hx
      · exact ⟨(ha.2 x hx).1, fun y hy => ktrans ((ha.2 x hx).2 key rfl) (h2 y hy)⟩
      · exact ⟨fun h9 => (hb.2 x hx).1 (ktrans h9 h1), (hb.2 x hx).2⟩⟩
    exact leafRow_spn _ _ [] _ key_
  | h + 1, a, key, b, lo, hi, fa, fb, hk, hs, ha, hb, h1, h2 => by
    obtain ⟨a1, a2, a3, a4⟩ := fa.inner
    obtain ⟨b1, b2, b3, b4⟩ := fb.inner
    have e1 := isz_append a.1 (key :: b.1)
    rw [isz_cons] at e1
    have hs' : isz a.1 + isz b.1 ≤ 256 + 85 := hs
    refine innerRow_spn (fun k hk' => ?_) (by have := hk.2; omega) (SpnK.join ha hb h1 h2)
    rcases List.mem_append.1 hk' with hk' | hk'
    · exact a3 k hk'
    · rcases List.mem_cons.1 hk' with rfl | hk'
      · exact hk
      · exact b3 k hk'
end Pl
end Go.Proofs.YtljmklohgpaopaaGreatDoor

namespace Go.Proofs.YtljmklohgpaopaaGreatDoor
namespace Pl

theorem SpnK.key_at {α : Type} {P : Key → Option Key → α → Prop} {hi : Option Key} : ∀ {ks : List Key} {cs : List α} {lo : Key} (j : Nat) (k : Key), SpnK P lo hi ks cs → ks[j]? = some k → kLo lo ks j < k ∧ Below_ (kHi hi ks (j + 1)) k
  | [], _, _, _, _, _, hk => by simp at hk
  | _ :: _, [], _, _, _, h, _ => h.elim
  | x :: ks, c :: cs, lo, 0, k, h, hk => by
    obtain rfl : x = k := by simpa using hk
    refine ⟨by rw [kLo_zero]; exact h.1, fun y hy => ?_⟩
    cases ks with
    | nil => exact h.2.1 y hy
    | cons z ks =>
      obtain rfl : z = y := by simpa [kHi] using hy
      exact (h.2.2.2.keys.2 z (by simp)).1
  | x :: ks, c :: cs, lo, j + 1, k, h, hk => by
    have := SpnK.key_at j k h.2.2.2 (by simpa using hk)
    have e : kHi hi (x :: ks) (j + 1 + 1) = kHi hi ks (j + 1) := by unfold kHi; simp
    rw [e]
    exact this
theorem splice_keys {h a b : Nat} {ks : List Key} {cs : List (Tr h)} {r : Row h} (hn : Fit (h + 1) (ks, cs)) (hr : RowFit h r) (hc : r.2.length ≤ 3) (hab : a + 1 ≤ b) :
    (∀ k ∈ ks.take a ++ r.2 ++ ks.drop (b - 1), KeyFit k) ∧ isz (ks.take a ++ r.2 ++ ks.drop (b - 1)) ≤ 420 := by
  obtain ⟨h1, h2, h3, h4, h5⟩ := hn
  obtain ⟨r1, r2, r3⟩ := hr
  dsimp only at h1 h2 h3 h4 h5
  refine ⟨fun k hk => ?_, ?_⟩
  · rcases List.mem_append.1 hk with hk | hk
    · rcases List.mem_append.1 hk with hk | hk
      · exact h4 k (List.mem_of_mem_take hk)
      · exact r2 k hk
    · exact h4 k (List.mem_of_mem_drop hk)
  · have e1 := isz_append (ks.take a ++ r.2) (ks.drop (b - 1))
    have e2 := isz_append (ks.take a) r.2
    have e3 := isz_few r2
    have e4 := isz_append (ks.take a) (ks.drop a)
    rw [List.take_append_drop] at e4
    have e5 : isz (ks.drop (b - 1)) ≤ isz (ks.drop a) := by
      have e6 := isz_append ((ks.drop a).take (b - 1 - a)) ((ks.drop a).drop (b - 1 - a))
      rw [List.take_append_drop, List.drop_drop, show a + (b - 1 - a) = b - 1 by omega] at e6
      have : 6 ≤ isz ((ks.drop a).take (b - 1 - a)) := by unfold isz; omega
      omega
    omega
theorem splice_spn {h a b : Nat} {lo : Key} {hi : Option Key} {ks : List Key} {cs : List (Tr h)} {r : Row h} (hn : Fit (h + 1) (ks, cs)) (hr : RowFit h r) (hc : r.2.length ≤ 3) (hab : a + 1 ≤ b) (hb : b ≤ cs.length)
    (hs : SpnK (Spn h) lo hi ks cs) (hrs : RSpn (kLo lo ks a) (kHi hi ks (b - 1)) r) :
    RSpn lo hi (if ks.take a ++ r.2 ++ ks.drop (b - 1) = [] then (([(([] : List Key), cs.take a ++ r.1 ++ cs.drop b)], []) : Row (h + 1)) else innerRow (ks.take a ++ r.2 ++ ks.drop (b - 1)) (cs.take a ++ r.1 ++ cs.drop b)) := by
  have h1 := hs.splice a b (by omega) hb hrs
  split
  · next he => rw [he] at h1; exact h1
  · next he => exact innerRow_spn (splice_keys hn hr hc hab).1 (splice_keys hn hr hc hab).2 h1
theorem lone_small {h : Nat} {r : Row h} {pg : Tr h} (hr : Becomes h r) (hl : lone r = some pg) : Half h pg ∧ pgsz h pg < 85 := by
  have h1 := lone_some hl
  refine ⟨?_, ?_⟩
  · rcases hr with hr | ⟨_, t, ht, ho⟩
    · exact .inl (hr.2.2 pg (by rw [h1]; simp))
    · rw [h1] at ht
      injection ht with ht
      subst ht
      exact .inr ho
  · unfold lone at hl
    split at hl
    · next x hx =>
      split at hl
      · next hlt => injection hl with hl; subst hl; exact hlt
      · cases hl
    · cases hl
theorem lone_none {h : Nat} {r : Row h} (hr : Becomes h r) (hl : lone r = none) : RowFit h r := by
  rcases hr with hr | ⟨_, t, ht, ho⟩
  · exact hr
  · exfalso
    unfold lone at hl
    rw [ht] at hl
    have := OneKid.small h t ho
    simp only at hl
    rw [if_pos (by omega)] at hl
    cases hl
theorem lone_key {h : Nat} {r : Row h} {pg : Tr h} {lo : Key} {hi : Option Key} (hs : RSpn lo hi r) (hl : lone r = some pg) : Spn h lo hi pg := by
  have h1 := lone_some hl
  unfold RSpn at hs
  rw [h1] at hs
  have : r.2 = [] := by
    cases hr2 : r.2 with
    | nil => rfl
    | cons a b => have := hs.len; rw [hr2] at this; simp at this
  rw [this] at hs
  exact hs
theorem replaced_spn {h i : Nat} {lo : Key} {hi : Option Key} {ks : List Key} {cs : List (Tr h)} {r : Row h} (hn : Fit (h + 1) (ks, cs)) (hik : i ≤ ks.length) (hr : Becomes h r) (hc : r.2.length ≤ 3)
    (hs : SpnK (Spn h) lo hi ks cs) (hrs : RSpn (kLo lo ks i) (kHi hi ks i) r) : RSpn lo hi (replaced ks cs i r) := by
  have hcs : cs.length = ks.length + 1 := hn.1
  unfold replaced spliced
  cases hl : lone r with
  | none => exact splice_spn hn (lone_none hr hl) hc (Nat.le_refl _) (by show i + 1 ≤ cs.length; omega) hs hrs
  | some pg =>
    obtain ⟨hh, hsz⟩ := lone_small hr hl
    have hpg := lone_key hrs hl
    dsimp only
    by_cases h0 : 0 < i
    · obtain ⟨j, rfl⟩ : ∃ j, i = j + 1 := ⟨i - 1, by omega⟩
      obtain ⟨left, h1⟩ : ∃ x, cs[j]? = some x := ⟨_, List.getElem?_eq_getElem (by omega)⟩
      obtain ⟨key, h2⟩ : ∃ x, ks[j]? = some x := ⟨_, List.getElem?_eq_getElem (by omega)⟩
      have hlf : Fit h left := hn.2.2.2.2 left (List.mem_of_getElem? h1)
      have hkf : KeyFit key := hn.2.2.2.1 key (List.mem_of_getElem? h2)
      have hsl := Fit.size h left hlf
      have hsp := hs.at_ j left h1
      rw [kHi_get h2] at hsp
      rw [kLo_get h2] at hpg
      obtain ⟨q1, q2⟩ := hs.key_at j key h2
      rw [if_pos h0, Nat.add_sub_cancel, h1, h2]
      exact splice_spn hn (together_fit h left key pg (.inl hlf) hh (.inl hlf) hkf (by omega)) (together_few h left key pg (.inl hlf) hh (by omega)) (by dsimp only; omega) (by dsimp only; omega) hs
        (together_spn h left key pg (.inl hlf) hh hkf (by omega) hsp hpg q1 q2)
    · obtain rfl : i = 0 := by omega
      have hks : 0 < ks.length := List.length_pos_iff.2 hn.2.1
      obtain ⟨nx, h1⟩ : ∃ x, cs[0 + 1]? = some x := ⟨_, List.getElem?_eq_getElem (by omega)⟩
      obtain ⟨key, h2⟩ : ∃ x, ks[0]? = some x := ⟨_, List.getElem?_eq_getElem hks⟩
      have hlf : Fit h nx := hn.2.2.2.2 nx (List.mem_of_getElem? h1)
      have hkf : KeyFit key := hn.2.2.2.1 key (List.mem_of_getElem? h2)
      have hsl := Fit.size h nx hlf
      have hsp := hs.at_ 1 nx h1
      rw [kLo_get h2] at hsp
      rw [kHi_get h2] at hpg
      obtain ⟨q1, q2⟩ := hs.key_at 0 key h2
      rw [if_neg h0, h1, h2]
      exact splice_spn hn (together_fit h pg key nx hh (.inl hlf) (.inr hlf) hkf (by omega)) (together_few h pg key nx hh (.inl hlf) (by omega)) (by dsimp only; omega) (by dsimp only; omega) hs
        (together_spn h pg key nx hh (.inl hlf) hkf (by omega) hpg hsp q1 q2)
theorem changed_spn {f : List Pr → List Pr} (k : Key) (hf : ∀ ps : List Pr, RFit 0 ps → (∀ p ∈ f ps, PrFit p) ∧ lsz (f ps) ≤ 400) (hg : ∀ (lo : Key) (hi : Option Key) (ps : List Pr), Spn 0 lo hi ps → InS lo hi k → Spn 0 lo hi (f ps)) :
    (h : Nat) → (t : Tr h) → {lo : Key} → {hi : Option Key} → RFit h t → Spn h lo hi t → InS lo hi k → RSpn lo hi (changed f k h t)
  | 0, ps, lo, hi, ht, hs, hk => leafRow_spn _ _ [] _ (hg lo hi ps hs hk)
  | h + 1, n, lo, hi, ht, hs, hk => by
    have hw := wayOf_le n.1 k
    have hl : n.2.length = n.1.length + 1 := ht.1
    obtain ⟨t, hx⟩ : ∃ t, n.2[wayOf n.1 k]? = some t := ⟨_, List.getElem?_eq_getElem (by omega)⟩
    have hft := Fit.root h t (ht.2.2.2.2 t (List.mem_of_getElem? hx))
    obtain ⟨h1, h2⟩ := changed_fit k hf h t hft
    rw [changed_kid hx]
    exact replaced_spn ht hw h1 h2 hs (changed_spn k hf hg h t hft (SpnK.at_ _ _ hs hx) (SpnK.way k hs hk))
theorem spnK_all {h : Nat} (hP : ∀ lo hi (t : Tr h), Spn h lo hi t → Srt (prs h t) ∧ ∀ p ∈ prs h t, InS lo hi p.key) {hi : Option Key} : ∀ {ks : List Key} {cs : List (Tr h)} {lo : Key}, SpnK (Spn h) lo hi ks cs →
    Srt (cs.flatMap (prs h)) ∧ ∀ p ∈ cs.flatMap (prs h), InS lo hi p.key
  | [], [], _, h => h.elim
  | [], [t], lo, h => by simpa using hP lo hi t h
  | [], _ :: _ :: _, _, h => h.elim
  | _ :: _, [], _, h => h.elim
  | k :: ks, t :: ts, lo, h => by
    obtain ⟨h1, h2, h3, h4⟩ := h
    obtain ⟨a1, a2⟩ := hP _ _ t h3
    obtain ⟨b1, b2⟩ := spnK_all hP h4
    rw [List.flatMap_cons]
    refine ⟨List.pairwise_append.2 ⟨a1, b1, fun x hx y hy => klt_le ((a2 x hx).2 k rfl) (b2 y hy).1⟩, fun p hp => ?_⟩
    rcases List.mem_append.1 hp with hp | hp
    · exact ⟨(a2 p hp).1, fun y hy => ktrans ((a2 p hp).2 k rfl) (h2 y hy)⟩
    · exact ⟨fun h9 => (b2 p hp).1 (ktrans h9 h1), (b2 p hp).2⟩
/-- The pairs of a tree stand in order. -/
theorem spn_all : (h : Nat) → (lo : Key) → (hi : Option Key) → (t : Tr h) → Spn h lo hi t → Srt (prs h t) ∧ ∀ p ∈ prs h t, InS lo hi p.key
  | 0, _, _, _, h => h
  | h + 1, lo, hi, n, hs => spnK_all (fun lo hi t => spn_all h lo hi t) hs
theorem way_parts {h : Nat} {hi : Option Key} (k : Key) : ∀ {ks : List Key} {cs : List (Tr h)} {lo : Key}, SpnK (Spn h) lo hi ks cs →
    (∀ p ∈ (cs.take (wayOf ks k)).flatMap (prs h), p.key < k) ∧ ∀ p ∈ (cs.drop (wayOf ks k + 1)).flatMap (prs h), k < p.key
  | [], [], _, h => h.elim
  | [], [t], _, _ => by simp [wayOf]
  | [], _ :: _ :: _, _, h => h.elim
  | _ :: _, [], _, h => h.elim
  | x :: ks, t :: ts, lo, h => by
    obtain ⟨h1, h2, h3, h4⟩ := h
    unfold wayOf
    rw [List.takeWhile_cons]
    by_cases hx : k < x
    · rw [if_neg (by simp [hx])]
      refine ⟨by simp, fun p hp => ?_⟩
      have hp' : p ∈ ts.flatMap (prs _) := by simpa using hp
      exact klt_le hx ((spnK_all (fun lo hi t => spn_all _ lo hi t) h4).2 p hp').1
    · rw [if_pos (by simp [hx]), List.length_cons, List.take_succ_cons, List.drop_succ_cons, List.flatMap_cons]
      obtain ⟨g1, g2⟩ := way_parts k h4
      refine ⟨fun p hp => ?_, g2⟩
      rcases List.mem_append.1 hp with hp | hp
      · exact klt_le (((spn_all _ _ _ t h3).2 p hp).2 x rfl) hx
      · exact g1 p hp
theorem Fit.kids : (h : Nat) → (t : Tr h) → Fit h t → Kids h t
  | 0, _, _ => trivial
  | h + 1, n, ht => ⟨ht.1, fun t hx => Fit.kids h t (ht.2.2.2.2 t hx)⟩
theorem RFit.kids : (h : Nat) → (t : Tr h) → RFit h t → Kids h t
  | 0, _, _ => trivial
  | h + 1, n, ht => Fit.kids (h + 1) n ht
/-- A leaf becomes another, all else stays, and lies ahead of the key or behind it. -/
theorem changed_parts (f : List Pr → List Pr) (k : Key) : (h : Nat) → (t : Tr h) → {lo : Key} → {hi : Option Key} → Kids h t → Spn h lo hi t → InS lo hi k →
    ∃ A B, prs h t = A ++ leafOf h t k ++ B ∧ rowPrs h (changed f k h t) = A ++ f (leafOf h t k) ++ B ∧ (∀ p ∈ A, p.key < k) ∧ ∀ p ∈ B, k < p.key
  | 0, ps, _, _, _, _, _ => ⟨[], [], (List.append_nil _).symm, by rw [show changed f k 0 ps = leafRow (f ps) from rfl, leafRow_prs]; exact (List.append_nil _).symm, by simp, by simp⟩
  | h + 1, n, lo, hi, hk, hs, hin => by
    obtain ⟨h1, h2⟩ := hk
    have hw := wayOf_le n.1 k
    have hlt : wayOf n.1 k < n.2.length := by omega
    obtain ⟨t, ht⟩ : ∃ t, n.2[wayOf n.1 k]? = some t := ⟨_, List.getElem?_eq_getElem hlt⟩
    obtain ⟨A, B, e1, e2, e3, e4⟩ := changed_parts f k h t (h2 t (List.mem_of_getElem? ht)) (SpnK.at_ _ _ hs ht) (SpnK.way k hs hin)
    obtain ⟨w1, w2⟩ := way_parts k hs
    refine ⟨(n.2.take (wayOf n.1 k)).flatMap (prs h) ++ A, B ++ (n.2.drop (wayOf n.1 k + 1)).flatMap (prs h), ?_, ?_, fun p hp => ?_, fun p hp => ?_⟩
    · have hd : n.2 = n.2.take (wayOf n.1 k) ++ t :: n.2.drop (wayOf n.1 k + 1) := by
        obtain ⟨hlt', rfl⟩ := List.getElem?_eq_some_iff.1 ht
        rw [← List.drop_eq_getElem_cons hlt', List.take_append_drop]
      have e : prs (h + 1) n = n.2.flatMap (prs h) := rfl
      have hle : leafOf (h + 1) n k = leafOf h t k := leafOf_kid ht
      rw [e, hle]
      conv => lhs; rw [hd]
      rw [List.flatMap_append, List.flatMap_cons, e1]
      simp
    · have hle : leafOf (h + 1) n k = leafOf h t k := leafOf_kid ht
      have hc : changed f k (h + 1) n = replaced n.1 n.2 (wayOf n.1 k) (changed f k h t) := changed_kid ht
      rw [hc, hle, replaced_prs _ _ _ _ hlt, e2]
      simp
    · rcases List.mem_append.1 hp with hp | hp
      · exact w1 p hp
      · exact e3 p hp
    · rcases List.mem_append.1 hp with hp | hp
      · exact e4 p hp
      · exact w2 p hp
/-- What Delete makes of pairs in which a key is. -/
def delL (k : Key) (ps : List Pr) : List Pr := ps.take (placeOf ps k) ++ ps.drop (placeOf ps k + 1)
def hasL (k : Key) (ps : List Pr) : Bool := match ps[placeOf ps k]? with | some p => decide (p.key = k) | none => false
def getL (k : Key) (ps : List Pr) : Option (List UInt8) := match ps[placeOf ps k]? with | some p => if p.key = k then some p.val else none | none => none
theorem placeOf_append {A L : List Pr} {k : Key} (h : ∀ p ∈ A, p.key < k) : placeOf (A ++ L) k = A.length + placeOf L k := by
  unfold placeOf
  induction A with
  | nil => simp
  | cons a A ih =>
    rw [List.cons_append, List.takeWhile_cons, if_pos (by simpa using h a (by simp)), List.length_cons, ih (fun p hp => h p (by simp [hp])), List.length_cons]
    omega
theorem placeOf_behind {L B : List Pr} {k : Key} (h : ∀ p ∈ B, k < p.key) : placeOf (L ++ B) k = placeOf L k := by
  unfold placeOf
  induction L with
  | nil =>
    cases B with
    | nil => rfl
    | cons b B => simp only [List.nil_append, List.takeWhile_cons]; rw [if_neg (by simpa using kasymm (h b (by simp)))]; rfl
  | cons a L ih =>
    rw [List.cons_append, List.takeWhile_cons, List.takeWhile_cons]
    split
    · rw [List.length_cons, List.length_cons, ih]
    · rfl
theorem placeOf_le (L : List Pr) (k : Key) : placeOf L k ≤ L.length := (List.takeWhile_sublist _).length_le
theorem at_parts {A L B : List Pr} {k : Key} (hA : ∀ p ∈ A, p.key < k) (hB : ∀ p ∈ B, k < p.key) :
    placeOf (A ++ L ++ B) k = A.length + placeOf L k ∧ (((A ++ L ++ B)[A.length + placeOf L k]? = L[placeOf L k]? ∧ placeOf L k < L.length) ∨ (placeOf L k = L.length ∧ (A ++ L ++ B)[A.length + placeOf L k]? = B[0]?)) := by
  refine ⟨by rw [List.append_assoc, placeOf_append hA, placeOf_behind hB], ?_⟩
  have := placeOf_le L k
  rw [List.append_assoc, List.getElem?_append_right (by omega), Nat.add_sub_cancel_left]
  rcases Nat.lt_or_ge (placeOf L k) L.length with h | h
  · exact .inl ⟨List.getElem?_append_left h, h⟩
  · have e : placeOf L k = L.length := by omega
    exact .inr ⟨e, by rw [List.getElem?_append_right h, e, Nat.sub_self]⟩
theorem not_behind {B : List Pr} {k : Key} (hB : ∀ p ∈ B, k < p.key) {p : Pr} (h : B[0]? = some p) : p.key ≠ k := fun e => kirr k (by have := hB p (List.mem_of_getElem? h); rw [e] at this; exact this)
theorem getL_parts {A L B : List Pr} {k : Key} (hA : ∀ p ∈ A, p.key < k) (hB : ∀ p ∈ B, k < p.key) : getL k (A ++ L ++ B) = getL k L := by
  obtain ⟨h1, h2⟩ := at_parts (L := L) hA hB
  unfold getL
  rw [h1]
  rcases h2 with ⟨h2, h3⟩ | ⟨h2, h3⟩
  · rw [h2]
  · rw [h3, List.getElem?_eq_none (l := L) (by omega)]
    cases hb : B[0]? with
    | none => rfl
    | some p => simp only; rw [if_neg (not_behind hB hb)]
theorem hasL_get (k : Key) (ps : List Pr) : hasL k ps = (getL k ps).isSome := by
  unfold hasL getL
  cases ps[placeOf ps k]? with
  | none => rfl
  | some p => simp only; by_cases h : p.key = k <;> simp [h]
theorem putL_parts {A L B : List Pr} {k v : Key} (hA : ∀ p ∈ A, p.key < k) (hB : ∀ p ∈ B, k < p.key) : putL k v (A ++ L ++ B) = A ++ putL k v L ++ B := by
  obtain ⟨h1, h2⟩ := at_parts (L := L) hA hB
  have hle := placeOf_le L k
  have tk : (A ++ L ++ B).take (A.length + placeOf L k) = A ++ L.take (placeOf L k) := by
    rw [List.append_assoc, List.take_length_add_append, List.take_append_of_le_length hle]
  have dr : ∀ j, j ≤ L.length → (A ++ L ++ B).drop (A.length + j) = L.drop j ++ B := fun j hj => by
    rw [List.append_assoc, List.drop_length_add_append, List.drop_append_of_le_length hj]
  unfold putL
  rw [h1, tk]
  rcases h2 with ⟨h2, h3⟩ | ⟨h2, h3⟩
  · rw [h2]
    obtain ⟨p, hp⟩ : ∃ p, L[placeOf L k]? = some p := ⟨_, List.getElem?_eq_getElem h3⟩
    rw [hp]
    dsimp only
    split
    · rw [show A.length + placeOf L k + 1 = A.length + (placeOf L k + 1) by omega, dr _ (by omega)]; simp
    · rw [dr _ (by omega)]; simp
  · rw [h3, List.getElem?_eq_none (l := L) (by omega)]
    cases hb : B[0]? with
    | none => dsimp only; rw [dr _ (by omega)]; simp
    | some p => dsimp only; rw [if_neg (not_behind hB hb), dr _ (by omega)]; simp
theorem delL_parts {A L B : List Pr} {k : Key} (hA : ∀ p ∈ A, p.key < k) (hB : ∀ p ∈ B, k < p.key) (hl : placeOf L k < L.length) : delL k (A ++ L ++ B) = A ++ delL k L ++ B := by
  obtain ⟨h1, h2⟩ := at_parts (L := L) hA hB
  have hle := placeOf_le L k
  have tk : (A ++ L ++ B).take (A.length + placeOf L k) = A ++ L.take (placeOf L k) := by
    rw [List.append_assoc, List.take_length_add_append, List.take_append_of_le_length hle]
  have dr : ∀ j, j ≤ L.length → (A ++ L ++ B).drop (A.length + j) = L.drop j ++ B := fun j hj => by
    rw [List.append_assoc, List.drop_length_add_append, List.drop_append_of_le_length hj]
  unfold delL
  rw [h1, tk, show A.length + placeOf L k + 1 = A.length + (placeOf L k + 1) by omega, dr _ (by omega)]
  simp
theorem placeOf_lo {ps : List Pr} {k : Key} : ∀ p ∈ ps.take (placeOf ps k), p.key < k := by
  intro p hp
  unfold placeOf at hp
  induction ps with
  | nil => simp at hp
  | cons a r ih =>
    rw [List.takeWhile_cons] at hp
    split at hp
    · next h =>
      rw [List.length_cons, List.take_succ_cons] at hp
      rcases List.mem_cons.1 hp with rfl | hp
      · simpa using h
      · exact ih hp
    · simp at hp
theorem placeOf_at {ps : List Pr} {k : Key} {p : Pr} (h : ps[placeOf ps k]? = some p) : ¬ p.key < k := by
  unfold placeOf at h
  induction ps with
  | nil => simp at h
  | cons a r ih =>
    rw [List.takeWhile_cons] at h
    split at h
    · rw [List.length_cons, List.getElem?_cons_succ] at h
      exact ih h
    · next hx =>
      have : a = p := by simpa using h
      rw [← this]
      simpa using hx
theorem placeOf_hi {ps : List Pr} {k : Key} (hs : Srt ps) : ∀ p ∈ ps.drop (placeOf ps k), ¬ p.key < k := by
  intro p hp
  obtain ⟨j, hj⟩ := List.mem_iff_getElem?.1 hp
  rw [List.getElem?_drop] at hj
  obtain ⟨hlt, hj'⟩ := List.getElem?_eq_some_iff.1 hj
  obtain ⟨q, hq⟩ : ∃ q, ps[placeOf ps k]? = some q := ⟨_, List.getElem?_eq_getElem (by omega)⟩
  have h1 := placeOf_at hq
  cases j with
  | zero =>
    rw [Nat.add_zero, hq] at hj
    injection hj with hj
    exact hj ▸ h1
  | succ j =>
    obtain ⟨hl, hq'⟩ := List.getElem?_eq_some_iff.1 hq
    have := List.pairwise_iff_getElem.1 hs (placeOf ps k) (placeOf ps k + (j + 1)) hl hlt (by omega)
    rw [hq', hj'] at this
    exact fun h9 => h1 (ktrans this h9)
/-- What lies behind where a key lies, without it. -/
def restOf (ps : List Pr) (k : Key) : List Pr := ps.drop (match ps[placeOf ps k]? with | some p => if p.key = k then placeOf ps k + 1 else placeOf ps k | none => placeOf ps k)
theorem putL_eq (k v : Key) (ps : List Pr) : putL k v ps = ps.take (placeOf ps k) ++ ⟨k, v⟩ :: restOf ps k := rfl
theorem restOf_sub (ps : List Pr) (k : Key) : List.Sublist (restOf ps k) (ps.drop (placeOf ps k)) := by
  unfold restOf
  split
  · split
    · rw [show placeOf ps k + 1 = placeOf ps k + 1 from rfl, ← List.drop_drop]; exact List.drop_sublist _ _
    · exact List.Sublist.refl _
  · exact List.Sublist.refl _
theorem restOf_gt {ps : List Pr} {k : Key} (hs : Srt ps) : ∀ p ∈ restOf ps k, k < p.key := by
  intro p hp
  have h1 := placeOf_hi hs p ((restOf_sub ps k).subset hp)
  rcases Decidable.em (k < p.key) with h | h
  · exact h
  · exfalso
    have he : p.key = k := ktri h1 h
    unfold restOf at hp
    split at hp
    · next q hq =>
      obtain ⟨hl, hq'⟩ := List.getElem?_eq_some_iff.1 hq
      split at hp
      · next hqk =>
        obtain ⟨j, hj⟩ := List.mem_iff_getElem?.1 hp
        rw [List.getElem?_drop] at hj
        obtain ⟨hlt, hj'⟩ := List.getElem?_eq_some_iff.1 hj
        have := List.pairwise_iff_getElem.1 hs (placeOf ps k) (placeOf ps k + 1 + j) hl hlt (by omega)
        rw [hq', hj', he, hqk] at this
        exact kirr _ this
      · next hqk =>
        obtain ⟨j, hj⟩ := List.mem_iff_getElem?.1 hp
        rw [List.getElem?_drop] at hj
        obtain ⟨hlt, hj'⟩ := List.getElem?_eq_some_iff.1 hj
        cases j with
        | zero =>
          rw [Nat.add_zero, hq] at hj
          injection hj with hj
          exact hqk (hj ▸ he)
        | succ j =>
          have := List.pairwise_iff_getElem.1 hs (placeOf ps k) (placeOf ps k + (j + 1)) hl hlt (by omega)
          rw [hq', hj', he] at this
          exact placeOf_at hq this
    · next hq =>
      have : ps.length ≤ placeOf ps k := List.getElem?_eq_none_iff.1 hq
      rw [List.drop_eq_nil_iff.2 this] at hp
      cases hp
theorem putL_spn {k v : Key} {lo : Key} {hi : Option Key} {ps : List Pr} (h : Spn 0 lo hi ps) (hk : InS lo hi k) : Spn 0 lo hi (putL k v ps) := by
  obtain ⟨h1, h2⟩ := h
  have hr := restOf_sub ps k
  have hd := List.drop_sublist (placeOf ps k) ps
  have key_ : Srt (putL k v ps) ∧ ∀ p ∈ putL k v ps, InS lo hi p.key := by
    rw [putL_eq]
    refine ⟨List.pairwise_append.2 ⟨h1.sublist (List.take_sublist _ _), List.pairwise_cons.2 ⟨fun x hx => restOf_gt h1 x hx, h1.sublist (hr.trans hd)⟩, fun x hx y hy => ?_⟩, fun p hp => ?_⟩
    · have g := placeOf_lo x hx
      rcases List.mem_cons.1 hy with rfl | hy
      · exact g
      · exact ktrans g (restOf_gt h1 y hy)
    · rcases List.mem_append.1 hp with hp | hp
      · exact h2 p (List.mem_of_mem_take hp)
      · rcases List.mem_cons.1 hp with rfl | hp
        · exact hk
        · exact h2 p ((hr.trans hd).subset hp)
  exact key_
theorem delL_sub (k : Key) (ps : List Pr) : List.Sublist (delL k ps) ps := by
  unfold delL
  conv => rhs; rw [← List.take_append_drop (placeOf ps k) ps]
  refine List.Sublist.append (List.Sublist.refl _) ?_
  rw [← List.drop_drop]
  exact List.drop_sublist _ _
theorem delL_spn {k : Key} {lo : Key} {hi : Option Key} {ps : List Pr} (h : Spn 0 lo hi ps) : Spn 0 lo hi (delL k ps) := by
  obtain ⟨h1, h2⟩ := h
  have key_ : Srt (delL k ps) ∧ ∀ p ∈ delL k ps, InS lo hi p.key := ⟨h1.sublist (delL_sub k ps), fun p hp => h2 p ((delL_sub k ps).subset hp)⟩
  exact key_
theorem pwt_append (a b : List Pr) : pwt (a ++ b) = pwt a + pwt b := by simp [pwt]
theorem pwt_sub {a b : List Pr} (h : List.Sublist a b) : pwt a ≤ pwt b := by
  induction h with
  | slnil => exact Nat.le_refl _
  | cons x _ ih => simp only [pwt, List.map_cons, List.sum_cons] at ih ⊢; omega
  | cons_cons x _ ih => simp only [pwt, List.map_cons, List.sum_cons] at ih ⊢; omega
theorem putL_fit {k v : Key} (hk : KeyFit k) (hv : v.length ≤ 100) {ps : List Pr} (h : RFit 0 ps) : (∀ p ∈ putL k v ps, PrFit p) ∧ lsz (putL k v ps) ≤ 400 := by
  obtain ⟨h1, h2⟩ := h
  have hr := restOf_sub ps k
  have hd := List.drop_sublist (placeOf ps k) ps
  rw [putL_eq]
  refine ⟨fun p hp => ?_, ?_⟩
  · rcases List.mem_append.1 hp with hp | hp
    · exact h2 p (List.mem_of_mem_take hp)
    · rcases List.mem_cons.1 hp with rfl | hp
      · exact ⟨hk, hv⟩
      · exact h2 p ((hr.trans hd).subset hp)
  · have e1 := pwt_append (ps.take (placeOf ps k)) (ps.drop (placeOf ps k))
    rw [List.take_append_drop] at e1
    have e2 := pwt_sub hr
    have e3 : lsz (ps.take (placeOf ps k) ++ ⟨k, v⟩ :: restOf ps k) = 3 + (pwt (ps.take (placeOf ps k)) + (psz ⟨k, v⟩ + pwt (restOf ps k))) := by rw [lsz_pwt, pwt_append]; simp [pwt]
    have e4 : psz ⟨k, v⟩ ≤ 142 := PrFit.size' (p := ⟨k, v⟩) ⟨hk, hv⟩
    have e5 : lsz ps = 3 + pwt ps := lsz_pwt ps
    omega
theorem delL_fit {k : Key} {ps : List Pr} (h : RFit 0 ps) : (∀ p ∈ delL k ps, PrFit p) ∧ lsz (delL k ps) ≤ 400 := by
  obtain ⟨h1, h2⟩ := h
  refine ⟨fun p hp => h2 p ((delL_sub k ps).subset hp), ?_⟩
  have := pwt_sub (delL_sub k ps)
  have e5 : lsz ps = 3 + pwt ps := lsz_pwt ps
  have e6 := lsz_pwt (delL k ps)
  omega
/-- A tree of some height. -/
abbrev Any := (h : Nat) × Tr h
def Any.prs (x : Any) : List Pr := Pl.prs x.1 x.2
/-- Where a row takes a tree's place. -/
def upR {h : Nat} (r : Row h) : Any := match r.1 with
  | [t] => ⟨h, t⟩
  | ts => ⟨h + 1, (r.2, ts)⟩
def downR : Any → Any
  | ⟨h + 1, (n : List Key × List (Tr h))⟩ => match n.2 with
    | [c] => ⟨h, c⟩
    | _ => ⟨h + 1, n⟩
  | ⟨0, t⟩ => ⟨0, t⟩
def newRoot (f : List Pr → List Pr) (k : Key) (x : Any) : Any := downR (upR (changed f k x.1 x.2))
def RootOk (x : Any) : Prop := RFit x.1 x.2 ∧ Spn x.1 [] none x.2
theorem downR_eq {h : Nat} (ks : List Key) (cs : List (Tr h)) : downR ⟨h + 1, ((ks, cs) : List Key × List (Tr h))⟩ = match cs with | [c] => (⟨h, c⟩ : Any) | _ => (⟨h + 1, ((ks, cs) : List Key × List (Tr h))⟩ : Any) := rfl
theorem downR_prs (x : Any) : (downR x).prs = x.prs := by
  obtain ⟨h, t⟩ := x
  cases h with
  | zero => rfl
  | succ h =>
    obtain ⟨ks, cs⟩ := t
    rw [downR_eq]
    match cs with
    | [] => rfl
    | [c] => exact (List.append_nil _).symm
    | a :: b :: r => rfl
theorem upR_prs {h : Nat} (r : Row h) : (upR r).prs = rowPrs h r := by
  unfold upR
  split
  · next t ht => show Pl.prs h t = r.1.flatMap _; rw [ht]; simp
  · rfl
theorem RSpn.len {h : Nat} {lo : Key} {hi : Option Key} {r : Row h} (hs : RSpn lo hi r) : r.1.length = r.2.length + 1 := SpnK.len hs
theorem newRoot_ok {f : List Pr → List Pr} {k : Key} (hf : ∀ ps : List Pr, RFit 0 ps → (∀ p ∈ f ps, PrFit p) ∧ lsz (f ps) ≤ 400) (hg : ∀ (lo : Key) (hi : Option Key) (ps : List Pr), Spn 0 lo hi ps → InS lo hi k → Spn 0 lo hi (f ps))
    {x : Any} (hx : RootOk x) : RootOk (newRoot f k x) := by
  obtain ⟨h, t⟩ := x
  obtain ⟨h1, h2⟩ := hx
  have hk : InS [] none k := ⟨knil k, fun y hy => by cases hy⟩
  obtain ⟨g1, g2⟩ := changed_fit k hf h t h1
  have g3 := changed_spn k hf hg h t h1 h2 hk
  unfold newRoot
  dsimp only
  generalize changed f k h t = r at g1 g2 g3
  obtain ⟨ts, ks⟩ := r
  have hlen := g3.len
  dsimp only at hlen g2
  unfold upR
  dsimp only
  split
  · next t' =>
    have hks : ks = [] := by cases ks with | nil => rfl | cons a b => simp at hlen
    subst hks
    have hsp : Spn h [] none t' := g3
    rcases g1 with g1 | ⟨_, t'', e, ho⟩
    · have ht' : Fit h t' := g1.2.2 t' (by simp)
      cases h with
      | zero => exact ⟨Fit.root 0 t' ht', hsp⟩
      | succ h =>
        obtain ⟨ks', cs'⟩ := t'
        have := ht'.1
        have h9 := List.length_pos_iff.2 ht'.2.1
        dsimp only at this h9
        rw [downR_eq]
        match cs', this with
        | [], h8 => simp at h8
        | [c], h8 => simp only [List.length_cons, List.length_nil] at h8; omega
        | a :: b :: r, _ => exact ⟨ht', hsp⟩
    · injection e with e
      subst e
      cases h with
      | zero =>
        have ho' : t' = ([] : List Pr) := ho
        subst ho'
        have e0 : RFit 0 ([] : List Pr) := ⟨by decide, fun p hp => by cases hp⟩
        exact ⟨e0, hsp⟩
      | succ h =>
        obtain ⟨o1, c, o2, o3⟩ := ho
        obtain ⟨ks', cs'⟩ := t'
        dsimp only at o1 o2
        subst o1 o2
        exact ⟨Fit.root h c o3, hsp⟩
  · next hne =>
    have hks : ks ≠ [] := by
      rintro rfl
      obtain ⟨c, hc⟩ := List.length_eq_one_iff.1 (show ts.length = 1 by simpa using hlen)
      exact hne c hc
    rcases g1 with g1 | ⟨e1, _⟩
    · have e : downR ⟨h + 1, (ks, ts)⟩ = (⟨h + 1, (ks, ts)⟩ : Any) := by
        rw [downR_eq]
        split
        · next c => exact absurd rfl (hne c)
        · rfl
      rw [e]
      refine ⟨⟨hlen, hks, ?_, g1.2.1, g1.2.2⟩, g3⟩
      have := isz_few g1.2.1
      dsimp only at this ⊢
      omega
    · exact absurd e1 hks
theorem newRoot_parts (f : List Pr → List Pr) (k : Key) {x : Any} (hx : RootOk x) : ∃ A B, x.prs = A ++ leafOf x.1 x.2 k ++ B ∧ (newRoot f k x).prs = A ++ f (leafOf x.1 x.2 k) ++ B ∧ (∀ p ∈ A, p.key < k) ∧ ∀ p ∈ B, k < p.key := by
  obtain ⟨A, B, h1, h2, h3⟩ := changed_parts f k x.1 x.2 (RFit.kids x.1 x.2 hx.1) hx.2 ⟨knil k, fun y hy => by cases hy⟩
  exact ⟨A, B, h1, by rw [newRoot, downR_prs, upR_prs, h2], h3⟩
theorem put_prs {k v : Key} {x : Any} (hx : RootOk x) : (newRoot (putL k v) k x).prs = putL k v x.prs := by
  obtain ⟨A, B, h1, h2, h3, h4⟩ := newRoot_parts (putL k v) k hx
  rw [h1, h2, putL_parts h3 h4]
theorem put_ok {k v : Key} (hk : KeyFit k) (hv : v.length ≤ 100) {x : Any} (hx : RootOk x) : RootOk (newRoot (putL k v) k x) :=
  newRoot_ok (fun _ h => putL_fit hk hv h) (fun _ _ _ h h' => putL_spn h h') hx
theorem del_ok {k : Key} {x : Any} (hx : RootOk x) : RootOk (newRoot (delL k) k x) :=
  newRoot_ok (fun _ h => delL_fit h) (fun _ _ _ h _ => delL_spn h) hx
theorem leaf_get {k : Key} {x : Any} (hx : RootOk x) : getL k (leafOf x.1 x.2 k) = getL k x.prs := by
  obtain ⟨A, B, h1, h2, h3, h4⟩ := newRoot_parts id k hx
  rw [h1, getL_parts h3 h4]
theorem hasL_lt {k : Key} {ps : List Pr} (h : hasL k ps = true) : placeOf ps k < ps.length := by
  unfold hasL at h
  cases hp : ps[placeOf ps k]? with
  | none => rw [hp] at h; cases h
  | some p => exact (List.getElem?_eq_some_iff.1 hp).1
theorem del_prs {k : Key} {x : Any} (hx : RootOk x) (hh : hasL k x.prs = true) : (newRoot (delL k) k x).prs = delL k x.prs := by
  obtain ⟨A, B, h1, h2, h3, h4⟩ := newRoot_parts (delL k) k hx
  have : hasL k (leafOf x.1 x.2 k) = true := by rw [hasL_get, leaf_get hx, ← hasL_get]; exact hh
  rw [h1, h2, delL_parts h3 h4 (hasL_lt this)]
theorem RootOk.srt {x : Any} (hx : RootOk x) : Srt x.prs := (spn_all _ _ _ _ hx.2).1
/-- A tree is not deep. -/
theorem Fit.many : (h : Nat) → (t : Tr h) → Fit h t → 2 ^ h ≤ (prs h t).length
  | 0, ps, h => List.length_pos_iff.2 h.2.1
  | h + 1, n, ht => by
    have hl := ht.1
    have h0 := List.length_pos_iff.2 ht.2.1
    have : ∀ (l : List (Tr h)), (∀ t ∈ l, Fit h t) → l.length * 2 ^ h ≤ (l.flatMap (prs h)).length := by
      intro l
      induction l with
      | nil => intro _; simp
      | cons a r ih =>
        intro hx
        have h1 := Fit.many h a (hx a (by simp))
        have h2 := ih (fun t ht => hx t (by simp [ht]))
        rw [List.flatMap_cons, List.length_append, List.length_cons, Nat.add_mul]
        omega
    have h3 := this n.2 ht.2.2.2.2
    have h4 : 2 * 2 ^ h ≤ n.2.length * 2 ^ h := Nat.mul_le_mul_right _ (by omega)
    show 2 ^ (h + 1) ≤ (n.2.flatMap (prs h)).length
    rw [Nat.pow_succ]
    omega
def pgs : (h : Nat) → Tr h → Nat
  | 0, _ => 1
  | h + 1, (n : List Key × List (Tr h)) => 1 + (n.2.map (pgs h)).sum
theorem Fit.pages : (h : Nat) → (t : Tr h) → Fit h t → pgs h t + 1 ≤ 2 * (prs h t).length
  | 0, ps, h => by have := List.length_pos_iff.2 h.2.1; show 1 + 1 ≤ 2 * List.length ps; omega
  | h + 1, n, ht => by
    have hl := ht.1
    have h0 := List.length_pos_iff.2 ht.2.1
    have : ∀ (l : List (Tr h)), (∀ t ∈ l, Fit h t) → (l.map (pgs h)).sum + l.length ≤ 2 * (l.flatMap (prs h)).length := by
      intro l
      induction l with
      | nil => intro _; simp
      | cons a r ih =>
        intro hx
        have h1 := Fit.pages h a (hx a (by simp))
        have h2 := ih (fun t ht => hx t (by simp [ht]))
        rw [List.flatMap_cons, List.length_append, List.length_cons, List.map_cons, List.sum_cons]
        omega
    have h3 := this n.2 ht.2.2.2.2
    show 1 + (n.2.map (pgs h)).sum + 1 ≤ 2 * (n.2.flatMap (prs h)).length
    omega
theorem putL_len (k v : Key) (ps : List Pr) : (putL k v ps).length ≤ ps.length + 1 := by
  rw [putL_eq, List.length_append, List.length_cons]
  have := (restOf_sub ps k).length_le
  have h1 := placeOf_le ps k
  rw [List.length_drop] at this
  rw [List.length_take]
  omega
end Pl
end Go.Proofs.YtljmklohgpaopaaGreatDoor
