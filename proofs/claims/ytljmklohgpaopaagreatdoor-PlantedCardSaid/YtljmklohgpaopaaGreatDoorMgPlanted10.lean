/- A tree's pages: what is searched for. A tree in memory: refs, what they lead to, where it lies on the disk. A tree's pages: where a key lies; spans; what may lie there. -/
import Derived.Test.YtljmklohgpaopaaGreatDoorMgPlanted9
import Derived.WalkLawsBesides
import Derived.Lib.MinMaxS
import Derived.Deep.QuietTactic
import Derived.BigQuiet
set_option linter.unusedVariables false
set_option linter.unusedSimpArgs false

namespace Go.Proofs.YtljmklohgpaopaaGreatDoor
open Go.RowKit

theorem str_less (a b : Pl.Key) : Op.bytesLess (tstr a).toList (tstr b).toList = decide (a < b) := by
  rw [Proofs.bytesLess_eq, Lib.toList_data, Lib.toList_data]; rfl

set_option maxHeartbeats 1000000 in
theorem search_any (K : FuncId) (caps : Array Value) (n : Nat) (p : Nat → Bool) (w : World) (hn : n < 4294967296) (hK : ∀ (args : Array Value) (W : World), (callFunc K args).run Tryz.prog W = .ok (.enter K args) W)
    (hf : ∀ (W : World) (i : Nat), Below w.heap.size w W → i < n → Calls Tryz.prog K (#[.int .i64 (i : Nat)] ++ caps) W fun e W' => e = .returned (.bool (p i)) ∧ Below W.heap.size W W')
    (hm : ∀ a b, a ≤ b → b < n → p a = true → p b = true) :
    Calls Tryz.prog 165 #[.int .i64 (n : Nat), .func (.func K) #[] caps] w fun e w' => ∃ m : Nat, e = .returned (.int .i64 (m : Nat)) ∧ m ≤ n ∧ (∀ t, t < m → p t = false) ∧ (∀ t, m ≤ t → t < n → p t = true) ∧ Below w.heap.size w w' := by
  have HF := Lib.hid hf
  have HM := Lib.hid hm
  clear hf hm
  go_enter Tryz.func165, Tryz.ntmps165
  go_wp2_with fail
  go_loopw [5, 6] (fun a b wr => ∃ lo hi : Nat, a = .int .i64 (lo : Nat) ∧ b = .int .i64 (hi : Nat) ∧ lo ≤ hi ∧ hi ≤ n ∧ Hid (Below w.heap.size w wr) ∧ Hid ((∀ t, t < lo → p t = false) ∧ ∀ t, hi ≤ t → t < n → p t = true)) (fun a b _ => (intOf b).toNat - (intOf a).toNat)
  case atStart => exact ⟨0, n, rfl, rfl, Nat.zero_le _, Nat.le_refl _, Below.refl _ _, fun t ht => absurd ht (Nat.not_lt_zero _), fun t h1 h2 => by omega⟩
  case round =>
    obtain ⟨lo, hi, rfl, rfl, h1, h2, HB, HI⟩ := hrel
    by_cases hlt : lo < hi
    · have q1 : (lo : Int) < (hi : Int) := by omega
      have HC := Lib.hid (HF.out wr ((lo + hi) / 2) HB.out (by omega))
      rw [show (((lo + hi) / 2 : Nat) : Int) = ((lo : Int) + (hi : Int)) / 2 by omega] at HC
      cases hp : p ((lo + hi) / 2)
      all_goals
        have HP := Lib.hid hp
        rw [hp] at HC
        clear hp
        go_wp2_with fail
        refine HC.out.mono ?_
        rintro e w3 ⟨rfl, hb3⟩
        have HB3 := Lib.hid (HB.out.trans (hb3.mono HB.out.size))
        clear hb3
        go_wp2_with fail
      · refine ⟨⟨(lo + hi) / 2 + 1, hi, by congr 1, rfl, by omega, h2, HB3, fun t ht => ?_, HI.out.2⟩, by simp [intOf]; omega⟩
        cases hpt : p t
        · rfl
        · have := HM.out t ((lo + hi) / 2) (by omega) (by omega) hpt
          rw [HP.out] at this; cases this
      · exact ⟨⟨lo, (lo + hi) / 2, rfl, by congr 1, by omega, by omega, HB3, HI.out.1, fun t h3 h4 => HM.out _ t h3 h4 HP.out⟩, by simp [intOf]; omega⟩
    · obtain rfl : lo = hi := by omega
      go_wp2_with fail
      go_ret
      exact ⟨lo, rfl, h2, HI.out.1, HI.out.2, HB.out⟩
theorem find_any (K : FuncId) (caps : Array Value) (n : Nat) (p : Nat → Bool) (w : World) (hn : n < 4294967296) (hK : ∀ (args : Array Value) (W : World), (callFunc K args).run Tryz.prog W = .ok (.enter K args) W)
    (hf : ∀ (W : World) (i : Nat), Below w.heap.size w W → i < n → Calls Tryz.prog K (#[.int .i64 (i : Nat)] ++ caps) W fun e W' => e = .returned (.bool (p i)) ∧ Below W.heap.size W W')
    (hm : ∀ a b, a ≤ b → b < n → p a = true → p b = true) :
    Calls Tryz.prog 137 #[.int .i64 (n : Nat), .func (.func K) #[] caps] w fun e w' => ∃ m : Nat, e = .returned (.int .i64 (m : Nat)) ∧ m ≤ n ∧ (∀ t, t < m → p t = false) ∧ (∀ t, m ≤ t → t < n → p t = true) ∧ Below w.heap.size w w' := by
  have H := Lib.hid (search_any K caps n p w hn hK hf hm)
  clear hf hm hK
  go_enter Tryz.func137, Tryz.ntmps137
  go_wp2_with fail
  refine H.out.mono ?_
  rintro e w3 ⟨m, rfl, h1, h2, h3, h4⟩
  have H2 := Lib.hid h2
  have H3 := Lib.hid h3
  have H4 := Lib.hid h4
  clear h2 h3 h4
  go_wp2_with fail
  go_ret
  exact ⟨m, rfl, h1, H2.out, H3.out, H4.out⟩

def gtB (k : Pl.Key) (ks : List Pl.Key) (i : Nat) : Bool := match ks[i]? with | some x => decide (k < x) | none => false
theorem gtB_at {k x : Pl.Key} {ks : List Pl.Key} {i : Nat} (h : ks[i]? = some x) : gtB k ks i = decide (k < x) := by unfold gtB; rw [h]
theorem enters_way (args : Array Value) (W : World) : (callFunc 139 args).run Tryz.prog W = .ok (.enter 139 args) W := by simp [go_sem]
theorem enters_place (args : Array Value) (W : World) : (callFunc 138 args).run Tryz.prog W = .ok (.enter 138 args) W := by simp [go_sem]
set_option maxRecDepth 100000 in
set_option maxHeartbeats 1000000 in
theorem way1_any (b g1 g2 : Nat) (ks : List Pl.Key) (rs : List Nat) (k : Pl.Key) (i : Nat) (w : World) (h : InnerAt w b ks rs) (h1 : Blk w g1 180 [.pointer (some ⟨b, 0, none⟩)]) (h2 : Blk w g2 9 [.string (tstr k)]) (hi : i < ks.length) :
    Calls Tryz.prog 139 #[.int .i64 (i : Nat), .pointer (some ⟨g1, 0, none⟩), .pointer (some ⟨g2, 0, none⟩)] w fun e w' => e = .returned (.bool (gtB k ks i)) ∧ Below w.heap.size w w' := by
  obtain ⟨A, cap, A', cap', hb, hs, hs'⟩ := h.refs
  obtain ⟨x, hx⟩ : ∃ x, ks[i]? = some x := ⟨_, List.getElem?_eq_getElem hi⟩
  obtain ⟨b2, off, rfl, g0⟩ := hs.at_ _ _ (ks_at hx)
  obtain ⟨c0, _, _, _⟩ := facts2 hb
  obtain ⟨d0, _⟩ := facts1 h1
  obtain ⟨e0, _⟩ := facts1 h2
  rw [gtB_at hx]
  obtain ⟨n, hn⟩ : ∃ n, ks.length = n := ⟨_, rfl⟩
  rw [hn] at c0 hi
  have l1 := str_less x k
  have l2 := tstr_beq x k
  have hv : (Op.bytesLess (tstr x).toList (tstr k).toList || (tstr x).toList == (tstr k).toList) = !decide (k < x) := by
    rw [l1, l2]
    by_cases hkx : k < x
    · rw [decide_eq_true hkx, decide_eq_false (Pl.kasymm hkx)]
      simp [beq_eq_false_iff_ne, (Pl.kne hkx).symm]
    · rw [decide_eq_false hkx]
      by_cases hxk : x < k
      · rw [decide_eq_true hxk]; rfl
      · rw [Pl.ktri hxk hkx]; simp
  obtain ⟨st, hst⟩ : ∃ st, tstr k = st := ⟨_, rfl⟩
  obtain ⟨sx, hsx⟩ : ∃ st, tstr x = st := ⟨_, rfl⟩
  rw [hst] at e0 hv
  rw [hsx] at g0 hv
  have hi' : (i : Int) < (n : Int) := by omega
  cases hd : decide (k < x)
  all_goals
    rw [hd] at hv
    simp only [Bool.not_true, Bool.not_false] at hv
    have HV := Lib.hid hv
    have HD := Lib.hid hd
    clear hs hs' hb h h1 h2 hn hx l1 l2 hst hsx hd
    go_enter Tryz.func139, Tryz.ntmps139
    go_wp2_with fail
    go_quiet (fail)
    go_wp2_with fail
    go_ret
    exact ⟨rfl, below_drewN (Below.refl _ _) _⟩
def geB (k : Pl.Key) (ps : List Pl.Pr) (i : Nat) : Bool := match ps[i]? with | some p => !decide (p.key < k) | none => false
theorem geB_at {k : Pl.Key} {p : Pl.Pr} {ps : List Pl.Pr} {i : Nat} (h : ps[i]? = some p) : geB k ps i = !decide (p.key < k) := by unfold geB; rw [h]
set_option maxRecDepth 100000 in
set_option maxHeartbeats 1000000 in
theorem place1_any (b g1 g2 : Nat) (ps : List Pl.Pr) (k : Pl.Key) (i : Nat) (w : World) (h : LeafAt w b ps) (h1 : Blk w g1 161 [.pointer (some ⟨b, 0, none⟩)]) (h2 : Blk w g2 9 [.string (tstr k)]) (hi : i < ps.length) :
    Calls Tryz.prog 138 #[.int .i64 (i : Nat), .pointer (some ⟨g1, 0, none⟩), .pointer (some ⟨g2, 0, none⟩)] w fun e w' => e = .returned (.bool (geB k ps i)) ∧ Below w.heap.size w w' := by
  obtain ⟨A, cap, hb, hc, hs⟩ := h
  obtain ⟨p, hp⟩ : ∃ p, ps[i]? = some p := ⟨_, List.getElem?_eq_getElem hi⟩
  have at_ := flat_at (f := prCells) (s := 2) (fun _ => rfl) ps i p hp
  obtain ⟨b2, off, rfl, g0⟩ := hs.1.at_ _ _ (at_ 0 (by omega))
  rw [Nat.add_zero] at g0
  obtain ⟨c0, _⟩ := facts1 hb
  obtain ⟨d0, _⟩ := facts1 h1
  obtain ⟨e0, _⟩ := facts1 h2
  rw [geB_at hp]
  obtain ⟨n, hn⟩ : ∃ n, ps.length = n := ⟨_, rfl⟩
  rw [hn] at c0 hi
  have hv := str_less p.key k
  obtain ⟨st, hst⟩ : ∃ st, tstr k = st := ⟨_, rfl⟩
  obtain ⟨sx, hsx⟩ : ∃ st, tstr p.key = st := ⟨_, rfl⟩
  rw [hst] at e0 hv
  rw [hsx] at g0 hv
  have hi' : (i : Int) < (n : Int) := by omega
  cases hd : decide (p.key < k)
  all_goals
    rw [hd] at hv
    have HD := Lib.hid hd
    clear hs hb h1 h2 hn hp hst hsx hd at_
    go_enter Tryz.func138, Tryz.ntmps138
    go_wp2_with fail
    go_quiet (fail)
    go_wp2_with fail
    go_ret
    exact ⟨by simp [hv], below_drewN (Below.refl _ _) _⟩
/-- What a search finds. -/
theorem way_unique {ks : List Pl.Key} {k : Pl.Key} : ∀ {m : Nat}, m ≤ ks.length → (∀ t, t < m → gtB k ks t = false) → (∀ t, m ≤ t → t < ks.length → gtB k ks t = true) → Pl.wayOf ks k = m := by
  intro m hm h1 h2
  unfold Pl.wayOf
  induction ks generalizing m with
  | nil => simp at hm; simp [hm]
  | cons x ks ih =>
    rw [List.takeWhile_cons]
    cases m with
    | zero =>
      have := h2 0 (Nat.le_refl _) (by simp)
      rw [gtB_at (x := x) rfl] at this
      rw [if_neg (by rw [this]; decide)]; rfl
    | succ m =>
      have := h1 0 (by omega)
      rw [gtB_at (x := x) rfl] at this
      rw [if_pos (by rw [this]; rfl), List.length_cons, ih (m := m) (by simpa using hm) (fun t ht => h1 (t + 1) (by omega)) (fun t h3 h4 => h2 (t + 1) (by omega) (by simpa using h4))]
theorem place_unique {ps : List Pl.Pr} {k : Pl.Key} : ∀ {m : Nat}, m ≤ ps.length → (∀ t, t < m → geB k ps t = false) → (∀ t, m ≤ t → t < ps.length → geB k ps t = true) → Pl.placeOf ps k = m := by
  intro m hm h1 h2
  unfold Pl.placeOf
  induction ps generalizing m with
  | nil => simp at hm; simp [hm]
  | cons x ks ih =>
    rw [List.takeWhile_cons]
    cases m with
    | zero =>
      have := h2 0 (Nat.le_refl _) (by simp)
      rw [geB_at (p := x) rfl] at this
      rw [if_neg (by simpa using this)]; rfl
    | succ m =>
      have := h1 0 (by omega)
      rw [geB_at (p := x) rfl] at this
      rw [if_pos (by simpa using this), List.length_cons, ih (m := m) (by simpa using hm) (fun t ht => h1 (t + 1) (by omega)) (fun t h3 h4 => h2 (t + 1) (by omega) (by simpa using h4))]
theorem gtB_mono {ks : List Pl.Key} {k : Pl.Key} (hs : ks.Pairwise (· < ·)) : ∀ a b, a ≤ b → b < ks.length → gtB k ks a = true → gtB k ks b = true := by
  intro a b h1 h2 h3
  rw [gtB_at (List.getElem?_eq_getElem (by omega : a < ks.length))] at h3
  rw [gtB_at (List.getElem?_eq_getElem h2)]
  rcases Nat.lt_or_ge a b with h4 | h4
  · exact decide_eq_true (Pl.ktrans (of_decide_eq_true h3) (List.pairwise_iff_getElem.1 hs a b (by omega) h2 h4))
  · obtain rfl : a = b := by omega
    exact h3
theorem geB_mono {ps : List Pl.Pr} {k : Pl.Key} (hs : Pl.Srt ps) : ∀ a b, a ≤ b → b < ps.length → geB k ps a = true → geB k ps b = true := by
  intro a b h1 h2 h3
  rw [geB_at (List.getElem?_eq_getElem (by omega : a < ps.length))] at h3
  rw [geB_at (List.getElem?_eq_getElem h2)]
  rcases Nat.lt_or_ge a b with h4 | h4
  · have h5 := List.pairwise_iff_getElem.1 hs a b (by omega) h2 h4
    simp only [Bool.not_eq_true', decide_eq_false_iff_not] at h3 ⊢
    exact fun h6 => h3 (Pl.ktrans h5 h6)
  · obtain rfl : a = b := by omega
    exact h3
end Go.Proofs.YtljmklohgpaopaaGreatDoor

namespace Go.Proofs.YtljmklohgpaopaaGreatDoor
open Go.RowKit

namespace Pl
/-- Where a tree's pages lie. -/
def ST : Nat → Type
  | 0 => Nat
  | h + 1 => Nat × List (ST h)
def top : (h : Nat) → ST h → Nat
  | 0, (s : Nat) => s
  | _ + 1, s => s.1
def secsOf : (h : Nat) → ST h → List Nat
  | 0, (s : Nat) => [s]
  | h + 1, (s : Nat × List (ST h)) => s.1 :: s.2.flatMap (secsOf h)
/-- A tree lies on a disk, of so many sectors. -/
def OnD (D : Nat → Option (List UInt8)) (n : Nat) : (h : Nat) → ST h → Tr h → Prop
  | 0, (s : Nat), (ps : List Pr) => 2 ≤ s ∧ s < n ∧ D s = some (padded (leafText ps))
  | h + 1, (s : Nat × List (ST h)), (t : List Key × List (Tr h)) => 2 ≤ s.1 ∧ s.1 < n ∧ D s.1 = some (padded (innerText t.1 (s.2.map (top h)))) ∧ s.2.length = t.2.length ∧ ∀ (i : Nat) (a : ST h) (c : Tr h), s.2[i]? = some a → t.2[i]? = some c → OnD D n h a c
theorem OnD.bounds {D : Nat → Option (List UInt8)} {n : Nat} : (h : Nat) → (s : ST h) → (t : Tr h) → OnD D n h s t → 2 ≤ top h s ∧ top h s < n
  | 0, _, _, h => ⟨h.1, h.2.1⟩
  | _ + 1, _, _, h => ⟨h.1, h.2.1⟩
theorem top_mem : (h : Nat) → (s : ST h) → top h s ∈ secsOf h s
  | 0, _ => List.mem_singleton.2 rfl
  | _ + 1, _ => List.mem_cons_self ..
theorem secs_kid {h : Nat} {s : ST (h + 1)} {a : ST h} {i : Nat} (ha : s.2[i]? = some a) {j : Nat} (hj : j ∈ secsOf h a) : j ∈ secsOf (h + 1) s :=
  List.mem_cons_of_mem _ (List.mem_flatMap.2 ⟨a, List.mem_of_getElem? ha, hj⟩)
theorem OnD.congr {D D' : Nat → Option (List UInt8)} {n : Nat} : (h : Nat) → (s : ST h) → (t : Tr h) → (∀ j ∈ secsOf h s, D' j = D j) → OnD D n h s t → OnD D' n h s t
  | 0, s, _, hj, h => ⟨h.1, h.2.1, (hj _ (top_mem 0 s)).trans h.2.2⟩
  | k + 1, s, _, hj, h => ⟨h.1, h.2.1, (hj _ (top_mem (k + 1) s)).trans h.2.2.1, h.2.2.2.1, fun i a c ha hc => OnD.congr k a c (fun j hj' => hj j (secs_kid ha hj')) (h.2.2.2.2 i a c ha hc)⟩
theorem OnD.all {D : Nat → Option (List UInt8)} {n : Nat} : (h : Nat) → (s : ST h) → (t : Tr h) → OnD D n h s t → ∀ j ∈ secsOf h s, 2 ≤ j ∧ j < n ∧ ∃ x, D j = some x
  | 0, s, _, h, j, hj => by
    obtain rfl : j = s := List.mem_singleton.1 hj
    exact ⟨h.1, h.2.1, _, h.2.2⟩
  | k + 1, s, t, h, j, hj => by
    rcases List.mem_cons.1 hj with rfl | hj
    · exact ⟨h.1, h.2.1, _, h.2.2.1⟩
    · obtain ⟨a, ha, hj⟩ := List.mem_flatMap.1 hj
      obtain ⟨i, hi⟩ := List.mem_iff_getElem?.1 ha
      obtain ⟨hlt, _⟩ := List.getElem?_eq_some_iff.1 hi
      exact OnD.all k a (t.2[i]'(h.2.2.2.1 ▸ hlt)) (h.2.2.2.2 i a _ hi (List.getElem?_eq_getElem _)) j hj
theorem encKids_inj : ∀ (ks : List Key) (xs ys : List Nat) (y z : List UInt8), xs.length = ks.length → ys.length = ks.length → (∀ a ∈ xs, a < 4294967296) → (∀ a ∈ ys, a < 4294967296) → (ks.zip xs).flatMap encKid ++ y = (ks.zip ys).flatMap encKid ++ z → xs = ys
  | [], xs, ys, _, _, h1, h2, _, _, _ => by rw [List.length_eq_zero_iff.1 h1, List.length_eq_zero_iff.1 h2]
  | k :: ks, [], _, _, _, h1, _, _, _, _ => by simp at h1
  | k :: ks, _ :: _, [], _, _, _, h2, _, _, _ => by simp at h2
  | k :: ks, a :: xs, b :: ys, y, z, h1, h2, h3, h4, h => by
    rw [List.zip_cons_cons, List.zip_cons_cons, List.flatMap_cons, List.flatMap_cons] at h
    unfold encKid at h
    dsimp only at h
    rw [List.append_assoc, List.append_assoc, List.append_assoc, List.append_assoc] at h
    have h5 := List.append_cancel_left h
    obtain ⟨h6, h7⟩ := List.append_inj h5 (by rw [be_length, be_length])
    have e : a = b := by
      have := congrArg num h6
      rw [num_be 4 a (h3 a (by simp)), num_be 4 b (h4 b (by simp))] at this
      exact this
    rw [e, encKids_inj ks xs ys y z (by simpa using h1) (by simpa using h2) (fun x hx => h3 x (by simp [hx])) (fun x hx => h4 x (by simp [hx])) h7]
theorem innerText_inj {ks : List Key} {xs ys : List Nat} (h1 : xs.length = ks.length + 1) (h2 : ys.length = ks.length + 1) (h3 : ∀ a ∈ xs, a < 4294967296) (h4 : ∀ a ∈ ys, a < 4294967296) (h : padded (innerText ks xs) = padded (innerText ks ys)) : xs = ys := by
  cases xs with
  | nil => simp at h1
  | cons a xs =>
    cases ys with
    | nil => simp at h2
    | cons b ys =>
      unfold padded innerText at h
      simp only [List.headD_cons, List.drop_succ_cons, List.drop_zero, List.cons_append, List.cons.injEq, true_and, List.append_assoc] at h
      obtain ⟨h6, h7⟩ := List.append_inj h (by rw [be_length, be_length])
      have e : a = b := by
        have := congrArg num h6
        rw [num_be 4 a (h3 a (by simp)), num_be 4 b (h4 b (by simp))] at this
        exact this
      rw [e, encKids_inj ks xs ys _ _ (by simpa using h1) (by simpa using h2) (fun x hx => h3 x (by simp [hx])) (fun x hx => h4 x (by simp [hx])) h7]
/-- What lies on the disk tells where all of it lies. -/
theorem OnD.unique {D : Nat → Option (List UInt8)} {n : Nat} (hn : n ≤ 4294967296) : (h : Nat) → (s s' : ST h) → (t : Tr h) → Kids h t → OnD D n h s t → OnD D n h s' t → top h s = top h s' → s = s'
  | 0, _, _, _, _, _, _, h => h
  | h + 1, s, s', t, hk, h1, h2, ht => by
    obtain ⟨a, xs⟩ := s
    obtain ⟨b, ys⟩ := s'
    obtain ⟨_, _, d1, l1, k1⟩ := h1
    obtain ⟨_, _, d2, l2, k2⟩ := h2
    have e : a = b := ht
    dsimp only at d1 d2 l1 l2 k1 k2
    rw [e, d2] at d1
    have hlen : ys.length = xs.length := by rw [l1, l2]
    have htl : t.2.length = t.1.length + 1 := hk.1
    have tops := innerText_inj (ks := t.1) (xs := ys.map (top h)) (ys := xs.map (top h)) (by rw [List.length_map]; omega) (by rw [List.length_map]; omega)
      (fun x hx => by
        obtain ⟨y, hy, rfl⟩ := List.mem_map.1 hx
        obtain ⟨i, hi⟩ := List.mem_iff_getElem?.1 hy
        obtain ⟨hlt, _⟩ := List.getElem?_eq_some_iff.1 hi
        have := (OnD.bounds h y _ (k2 i y _ hi (List.getElem?_eq_getElem (l2 ▸ hlt)))).2
        omega)
      (fun x hx => by
        obtain ⟨y, hy, rfl⟩ := List.mem_map.1 hx
        obtain ⟨i, hi⟩ := List.mem_iff_getElem?.1 hy
        obtain ⟨hlt, _⟩ := List.getElem?_eq_some_iff.1 hi
        have := (OnD.bounds h y _ (k1 i y _ hi (List.getElem?_eq_getElem (l1 ▸ hlt)))).2
        omega) (Option.some.inj d1)
    have : xs = ys := by
      refine List.ext_getElem (by omega) fun i h3 h4 => ?_
      have h5 : i < t.2.length := by omega
      have hti : top h ys[i] = top h xs[i] := by
        have := congrArg (fun l => l[i]?) tops
        simpa [h3, h4] using this
      exact OnD.unique hn h xs[i] ys[i] t.2[i] (hk.2 _ (List.getElem_mem h5)) (k1 i _ _ (List.getElem?_eq_getElem h3) (List.getElem?_eq_getElem h5)) (k2 i _ _ (List.getElem?_eq_getElem h4) (List.getElem?_eq_getElem h5)) hti.symm
    rw [e, this]
end Pl

/-- How low a block may lie that is changed. -/
structure LoT where
  lo : Nat
set_option linter.unusedSectionVars false
variable [Inhabited LoT]
def LO : Nat := (default : LoT).lo
/-- A ref: where it leads to. -/
abbrev RefAt (w : World) (r a : Nat) (v : Value) : Prop := Blk w r 168 [.int .i64 (a : Nat), v]
/-- What refs stand for. -/
abbrev Gh := Nat → Option Pl.Any
def Ext (G G' : Gh) : Prop := ∀ r x, G r = some x → G' r = some x
theorem Ext.refl (G : Gh) : Ext G G := fun _ _ h => h
theorem Ext.trans {G G' G'' : Gh} (h : Ext G G') (k : Ext G' G'') : Ext G G'' := fun r x hr => k r x (h r x hr)
/-- A page that stands for a tree. -/
def PgOk (w : World) (G : Gh) (v : Value) : (h : Nat) → Pl.Tr h → Option (Pl.ST h) → Prop
  | 0, (ps : List Pl.Pr), _ => PgAt w v (.leaf ps)
  | h + 1, (t : List Pl.Key × List (Pl.Tr h)), so => ∃ rs, PgAt w v (.inner t.1 rs) ∧ rs.length = t.2.length ∧ (∀ (i r : Nat) (c : Pl.Tr h), rs[i]? = some r → t.2[i]? = some c → G r = some ⟨h, c⟩) ∧
      ∀ s : Pl.ST (h + 1), so = some s → ∀ (i r : Nat) (a : Pl.ST h), rs[i]? = some r → s.2[i]? = some a → ∃ pv, RefAt w r (Pl.top h a) pv
theorem PgOk.bare {w : World} {G : Gh} {v : Value} : (h : Nat) → (t : Pl.Tr h) → (so : Option (Pl.ST h)) → PgOk w G v h t so → PgOk w G v h t none
  | 0, _, _, h => h
  | _ + 1, _, _, ⟨rs, h1, h2, h3, _⟩ => ⟨rs, h1, h2, h3, fun s hs => by cases hs⟩
theorem PgOk.ext {w : World} {G G' : Gh} {v : Value} (hG : Ext G G') : {h : Nat} → {t : Pl.Tr h} → {so : Option (Pl.ST h)} → PgOk w G v h t so → PgOk w G' v h t so
  | 0, _, _, h => h
  | _ + 1, _, _, ⟨rs, h1, h2, h3, h4⟩ => ⟨rs, h1, h2, fun i r c hr hc => hG _ _ (h3 i r c hr hc), h4⟩
/-- A value that is never laid into a ref or a disk's head. -/
def plainV : Value → Bool
  | .string _ => true
  | .bool _ => true
  | .iface _ _ => true
  | _ => false
theorem Blk.plain {w : World} {g : Nat} {t : TypeId} {cs : List Value} {p : Addr} {s : Value} (h : Blk w g t cs) (hn : ∀ u ∈ cs, plainV u = false) (hc : w.cell? p = some s) (hs : plainV s = true) : p.block ≠ g := by
  intro e
  subst e
  unfold Blk at h
  unfold World.cell? at hc
  rw [h] at hc
  dsimp only at hc
  split at hc
  · cases hc
  · have hm : s ∈ cs := by
      have := List.mem_of_getElem? (l := cs) (i := p.off) (a := s) (by simpa using hc)
      exact this
    rw [hn s hm] at hs
    cases hs
/-- Blocks of these kinds may have changed; refs may have been led to pages. -/
structure TFr (w w' : World) : Prop where
  only : ∃ F, Only F w w' ∧ Kinds F w [168, 102]
  refs : ∀ r a v, RefAt w r a v → ∃ v', RefAt w' r a v' ∧ (v' = v ∨ v = .nilIface)
  ev : ∀ (p : Addr) (s : Value), plainV s = true → w.cell? p = some s → w'.cell? p = some s
  low : Only (fun k => LO ≤ k) w w'
theorem TFr.size {w w' : World} (h : TFr w w') : w.heap.size ≤ w'.heap.size := by obtain ⟨F, ho, _⟩ := h.only; exact ho.size
theorem TFr.of_below {w w' : World} (h : Below w.heap.size w w') : TFr w w' := ⟨⟨fun _ => False, Only.of_below h _, fun _ hk => hk.elim⟩, fun r a v hr => ⟨v, hr.below h hr.lt, .inl rfl⟩, fun p s _ hc => (h.cell (World.block_lt_of_cell? _ _ hc)).trans hc, Only.of_below h _⟩
theorem TFr.refl (w : World) : TFr w w := .of_below (Below.refl _ _)
theorem TFr.trans {a b c : World} (h : TFr a b) (k : TFr b c) : TFr a c := by
  obtain ⟨F, h1, h2⟩ := h.only
  obtain ⟨F', k1, k2⟩ := k.only
  refine ⟨⟨fun x => F x ∨ (x < a.heap.size ∧ F' x), ?_, ?_⟩, fun r x v hr => ?_, fun p s hs hc => k.ev p s hs (h.ev p s hs hc), h.low.trans' k.low⟩
  · exact (h1.mono (fun x _ hx => .inl hx)).trans k1 (fun x hx hF => .inr ⟨hx, hF⟩)
  · rintro x (hx | ⟨hx, hF⟩)
    · exact h2 x hx
    · rcases Classical.em (F x) with hf | hf
      · exact h2 x hf
      · obtain ⟨t, ht, cs, fz, hcs⟩ := k2 x hF
        exact ⟨t, ht, cs, fz, (h1.block x hx hf).symm.trans hcs⟩
  · obtain ⟨v', h3, h4⟩ := h.refs r x v hr
    obtain ⟨v'', k3, k4⟩ := k.refs r x v' h3
    refine ⟨v'', k3, ?_⟩
    rcases h4 with rfl | h4
    · exact k4
    · exact .inr h4
theorem TFr.below {a b c : World} (h : TFr a b) (k : Below b.heap.size b c) : TFr a c := h.trans (.of_below k)
theorem TFr.blk {w w' : World} (h : TFr w w') {k : Nat} {t : TypeId} {cs : List Value} (hb : Blk w k t cs) (h1 : t ≠ 168) (h2 : t ≠ 102) : Blk w' k t cs := by
  obtain ⟨F, ho, hF⟩ := h.only
  exact ho.blk_ hF hb (by simp [h1, h2])
theorem TFr.pg {w w' : World} (h : TFr w w') {v : Value} {pg : Pg} (hp : PgAt w v pg) : PgAt w' v pg := by
  obtain ⟨F, ho, hF⟩ := h.only
  exact hp.only ho hF (by decide)
theorem TFr.tsrc {w w' : World} (h : TFr w w') {A : Option Addr} {cs : List Value} {t : TypeId} (hp : TSrc w A cs t) (h1 : t ≠ 168) (h2 : t ≠ 102) : TSrc w' A cs t := by
  obtain ⟨F, ho, hF⟩ := h.only
  exact hp.only ho hF (by simp [h1, h2])
theorem PgOk.tfr {w w' : World} {G G' : Gh} {v : Value} (hf : TFr w w') (hG : Ext G G') : {h : Nat} → {t : Pl.Tr h} → {so : Option (Pl.ST h)} → PgOk w G v h t so → PgOk w' G' v h t so
  | 0, t, _, h => hf.pg (pg := .leaf t) h
  | _ + 1, _, _, ⟨rs, h1, h2, h3, h4⟩ => ⟨rs, hf.pg h1, h2, fun i r c hr hc => hG _ _ (h3 i r c hr hc), fun s hs i r a hr ha => by
      obtain ⟨pv, h5⟩ := h4 s hs i r a hr ha
      obtain ⟨pv', h6, _⟩ := hf.refs _ _ _ h5
      exact ⟨pv', h6⟩⟩
/-- A ref stands for a tree: it is here alone, or it lies on the disk, and may be here too. -/
def RefOk (w : World) (G : Gh) (D : Nat → Option (List UInt8)) (n : Nat) (S : List Nat) (r : Nat) (h : Nat) (t : Pl.Tr h) : Prop :=
  (∃ v, RefAt w r 0 v ∧ PgOk w G v h t none) ∨ ∃ s v, RefAt w r (Pl.top h s) v ∧ Pl.OnD D n h s t ∧ (∀ j ∈ Pl.secsOf h s, j ∈ S) ∧ (v = .nilIface ∨ PgOk w G v h t (some s))
def Inv (w : World) (G : Gh) (D : Nat → Option (List UInt8)) (n : Nat) (S : List Nat) : Prop := ∀ r h t, G r = some ⟨h, t⟩ → RefOk w G D n S r h t
section
variable {w w' : World} {G G' : Gh} {D : Nat → Option (List UInt8)} {n : Nat} {S : List Nat}
theorem RefOk.blk {r h : Nat} {t : Pl.Tr h} (hr : RefOk w G D n S r h t) : ∃ a v, RefAt w r a v := by
  rcases hr with ⟨v, h1, _⟩ | ⟨s, v, h1, _⟩
  · exact ⟨_, _, h1⟩
  · exact ⟨_, _, h1⟩
theorem Inv.lt (h : Inv w G D n S) {r : Nat} {x : Pl.Any} (hr : G r = some x) : r < w.heap.size := by
  obtain ⟨a, v, hb⟩ := (h r x.1 x.2 hr).blk
  exact hb.lt
theorem RefOk.below {r h : Nat} {t : Pl.Tr h} (hr : RefOk w G D n S r h t) (hb : Below w.heap.size w w') (hG : Ext G G') : RefOk w' G' D n S r h t := by
  rcases hr with ⟨v, h1, h2⟩ | ⟨s, v, h1, h2, h3, h4⟩
  · exact .inl ⟨v, h1.below hb h1.lt, h2.tfr (.of_below hb) hG⟩
  · exact .inr ⟨s, v, h1.below hb h1.lt, h2, h3, h4.imp id fun h5 => h5.tfr (.of_below hb) hG⟩
theorem Inv.below (h : Inv w G D n S) (hb : Below w.heap.size w w') : Inv w' G D n S := fun r k t hr => (h r k t hr).below hb (Ext.refl G)
/-- What changes no ref and no page changes nothing. -/
theorem Inv.only {F : Nat → Prop} {ts : List TypeId} (h : Inv w G D n S) (ho : Only F w w') (hF : Kinds F w ts) (h1 : 168 ∉ ts) (h2 : ∀ t ∈ pageTypes, t ∉ ts) : Inv w' G D n S := by
  have pg : ∀ {v : Value} (k : Nat) (t : Pl.Tr k) (so : Option (Pl.ST k)), PgOk w G v k t so → PgOk w' G v k t so := by
    intro v k t so hp
    cases k with
    | zero => exact PgAt.only (pg := .leaf t) hp ho hF h2
    | succ k =>
      obtain ⟨rs, g1, g2, g3, g4⟩ := hp
      exact ⟨rs, g1.only ho hF h2, g2, g3, fun s hs i r a hr ha => by
        obtain ⟨pv, h5⟩ := g4 s hs i r a hr ha
        exact ⟨pv, ho.blk_ hF h5 h1⟩⟩
  intro r k t hr
  rcases h r k t hr with ⟨v, g1, g2⟩ | ⟨s, v, g1, g2, g3, g4⟩
  · exact .inl ⟨v, ho.blk_ hF g1 h1, pg _ _ _ g2⟩
  · exact .inr ⟨s, v, ho.blk_ hF g1 h1, g2, g3, g4.imp id (pg _ _ _)⟩
end
/-- One ref more. -/
def Gh.add (G : Gh) (r : Nat) (x : Pl.Any) : Gh := fun k => if k = r then some x else G k
theorem Gh.add_self (G : Gh) (r : Nat) (x : Pl.Any) : G.add r x r = some x := if_pos rfl
theorem Gh.add_ext {G : Gh} {r : Nat} (x : Pl.Any) (h : G r = none) : Ext G (G.add r x) := fun k y hk => by
  unfold Gh.add
  by_cases e : k = r
  · rw [e, h] at hk; cases hk
  · rw [if_neg e]; exact hk
theorem Inv.new {w : World} {G : Gh} {D : Nat → Option (List UInt8)} {n : Nat} {S : List Nat} (h : Inv w G D n S) {r : Nat} (hr : w.heap.size ≤ r) : G r = none := by
  cases hg : G r with
  | none => rfl
  | some x => have := h.lt hg; omega
/-- A page gets a ref. -/
theorem Inv.add {w w' : World} {G : Gh} {D : Nat → Option (List UInt8)} {n : Nat} {S : List Nat} (hi : Inv w G D n S) {v : Value} {h : Nat} {t : Pl.Tr h} (hv : PgOk w G v h t none) (hb : Below w.heap.size w w') {r : Nat} (hr : w.heap.size ≤ r) (hB : RefAt w' r 0 v) :
    Inv w' (G.add r ⟨h, t⟩) D n S ∧ Ext G (G.add r ⟨h, t⟩) := by
  have hx := Gh.add_ext ⟨h, t⟩ (hi.new hr)
  refine ⟨fun k h' t' hk => ?_, hx⟩
  unfold Gh.add at hk
  by_cases e : k = r
  · rw [if_pos e] at hk
    injection hk with hk
    injection hk with e1 e2
    subst e1
    obtain rfl := eq_of_heq e2
    rw [e]
    exact .inl ⟨v, hB, hv.tfr (.of_below hb) hx⟩
  · rw [if_neg e] at hk
    exact (hi k h' t' hk).below hb hx
/-- Kids get refs. -/
def Gh.kids (G : Gh) (lo h : Nat) (rs : List Nat) (cs : List (Pl.Tr h)) : Gh := fun k => if k < lo then G k else match (rs.zip cs).find? (fun p => p.1 == k) with
  | some p => some ⟨h, p.2⟩
  | none => none
theorem Gh.kids_low {G : Gh} {lo h k : Nat} {rs : List Nat} {cs : List (Pl.Tr h)} {x : Pl.Any} (hk : G.kids lo h rs cs k = some x) : G k = some x ∨ lo ≤ k := by
  unfold Gh.kids at hk
  by_cases hl : k < lo
  · rw [if_pos hl] at hk; exact .inl hk
  · exact .inr (Nat.le_of_not_lt hl)
theorem Gh.add_low {G : Gh} {r k : Nat} {x y : Pl.Any} (hk : G.add r x k = some y) : G k = some y ∨ k = r := by
  unfold Gh.add at hk
  by_cases hl : k = r
  · exact .inr hl
  · rw [if_neg hl] at hk; exact .inl hk
theorem find_zip {α : Type} : ∀ {rs : List Nat} {cs : List α} {i r : Nat} {c : α}, rs.Pairwise (· < ·) → rs[i]? = some r → cs[i]? = some c → (rs.zip cs).find? (fun p => p.1 == r) = some (r, c)
  | [], _, _, _, _, _, h, _ => by simp at h
  | _ :: _, [], _, _, _, _, _, h => by simp at h
  | x :: rs, y :: cs, 0, r, c, _, h, k => by
    obtain rfl : x = r := by simpa using h
    obtain rfl : y = c := by simpa using k
    simp
  | x :: rs, y :: cs, i + 1, r, c, hp, h, k => by
    obtain ⟨h1, h2⟩ := List.pairwise_cons.1 hp
    have hr : rs[i]? = some r := by simpa using h
    have hlt := h1 r (List.mem_of_getElem? hr)
    have hne : (x == r) = false := beq_eq_false_iff_ne.2 (by omega)
    rw [List.zip_cons_cons, List.find?_cons]
    simp only [hne]
    exact find_zip h2 hr (by simpa using k)
theorem zip_find {α : Type} : ∀ {rs : List Nat} {cs : List α} {k : Nat} {p : Nat × α}, (rs.zip cs).find? (fun p => p.1 == k) = some p → p.1 = k ∧ ∃ i : Nat, rs[i]? = some k ∧ cs[i]? = some p.2
  | [], _, _, _, h => by simp at h
  | _ :: _, [], _, _, h => by simp at h
  | x :: rs, y :: cs, k, p, h => by
    rw [List.zip_cons_cons, List.find?_cons] at h
    by_cases hx : (x == k) = true
    · simp only [hx] at h
      injection h with h
      subst h
      have e : x = k := beq_iff_eq.1 hx
      exact ⟨e, 0, by simp [e], by simp⟩
    · simp only [hx] at h
      obtain ⟨h1, i, h2, h3⟩ := zip_find h
      exact ⟨h1, i + 1, by simpa using h2, by simpa using h3⟩
/-- Kids that were read get a place in the ghost. -/
theorem Inv.kids {w w1 : World} {G : Gh} {D : Nat → Option (List UInt8)} {n : Nat} {S : List Nat} (hi : Inv w G D n S) (hb : Below w.heap.size w w1) {h : Nat} {rs ats : List Nat} {ss : List (Pl.ST h)} {cs : List (Pl.Tr h)}
    (ha : Aways w1 w.heap.size rs ats) (hrl : rs.length = cs.length) (hsl : ss.length = cs.length) (hat : ats = ss.map (Pl.top h)) (hD : ∀ (i : Nat) (a : Pl.ST h) (c : Pl.Tr h), ss[i]? = some a → cs[i]? = some c → Pl.OnD D n h a c) (hS : ∀ a ∈ ss, ∀ j ∈ Pl.secsOf h a, j ∈ S) :
    Inv w1 (G.kids w.heap.size h rs cs) D n S ∧ Ext G (G.kids w.heap.size h rs cs) ∧ ∀ (i r : Nat) (c : Pl.Tr h), rs[i]? = some r → cs[i]? = some c → G.kids w.heap.size h rs cs r = some ⟨h, c⟩ := by
  have hx : Ext G (G.kids w.heap.size h rs cs) := fun k x hk => by unfold Gh.kids; rw [if_pos (hi.lt hk)]; exact hk
  refine ⟨fun k h' t' hk => ?_, hx, fun i r c hr hc => ?_⟩
  · unfold Gh.kids at hk
    by_cases hlo : k < w.heap.size
    · rw [if_pos hlo] at hk
      exact (hi k h' t' hk).below hb hx
    · rw [if_neg hlo] at hk
      split at hk
      · next p hp =>
        injection hk with hk
        injection hk with e1 e2
        subst e1
        obtain rfl := eq_of_heq e2
        obtain ⟨_, i, h2, h3⟩ := zip_find hp
        obtain ⟨hlt, _⟩ := List.getElem?_eq_some_iff.1 h3
        obtain ⟨a, hs⟩ : ∃ a, ss[i]? = some a := ⟨_, List.getElem?_eq_getElem (by omega)⟩
        exact .inr ⟨a, .nilIface, ha.at_ i k _ h2 (by rw [hat, List.getElem?_map, hs]; rfl), hD i a _ hs h3, hS a (List.mem_of_getElem? hs), .inl rfl⟩
      · cases hk
  · unfold Gh.kids
    rw [if_neg (by have := (ha.lo r (List.mem_of_getElem? hr)).1; omega), find_zip ha.up hr hc]
theorem RefAt.uniq {w : World} {r a a' : Nat} {v v' : Value} (h : RefAt w r a v) (h' : RefAt w r a' v') : a = a' ∧ v = v' := by
  have h2 := Option.some.inj (Eq.trans (Eq.symm h) h')
  simp at h2
  exact ⟨by omega, h2.2⟩
theorem setRef {w : World} {r a : Nat} (h : RefAt w r a .nilIface) (v : Value) (hlo : LO ≤ r) : RefAt (w.setCell ⟨r, 1, none⟩ v) r a v ∧ TFr w (w.setCell ⟨r, 1, none⟩ v) := by
  have h1 : RefAt (w.setCell ⟨r, 1, none⟩ v) r a v := h.set_ 1 v
  have ho : Only (· = r) w (w.setCell ⟨r, 1, none⟩ v) := (Only.refl (· = r) w).setCell (p := ⟨r, 1, none⟩) (.inl rfl) v
  refine ⟨h1, ⟨⟨(· = r), ho, fun k hk => ⟨_, List.mem_cons_self .., hk ▸ h.typ⟩⟩, fun r' a' v' hr' => ?_, fun p s hs hc => ho.cell hc (h.plain (by simp [plainV]) hc hs), ho.mono (fun x _ hx => by rw [hx]; exact hlo)⟩⟩
  by_cases e : r' = r
  · subst e
    obtain ⟨e2, e3⟩ := RefAt.uniq h hr'
    subst e2
    exact ⟨v, h1, .inr e3.symm⟩
  · exact ⟨v', ho.blk hr' e, .inl rfl⟩
/-- A ref is led to the page that was read. -/
theorem Inv.loaded {w : World} {G : Gh} {D : Nat → Option (List UInt8)} {n : Nat} {S : List Nat} (hi : Inv w G D n S) {r h : Nat} {t : Pl.Tr h} {s : Pl.ST h} {v : Value} (hr : RefAt w r (Pl.top h s) .nilIface) (hG : G r = some ⟨h, t⟩) (hD : Pl.OnD D n h s t) (hS : ∀ j ∈ Pl.secsOf h s, j ∈ S) (hv : PgOk w G v h t (some s)) (hlo : LO ≤ r) :
    Inv (w.setCell ⟨r, 1, none⟩ v) G D n S := by
  obtain ⟨h1, hf⟩ := setRef hr v hlo
  intro k h' t' hk
  by_cases e : k = r
  · subst e
    rw [hG] at hk
    injection hk with hk
    injection hk with e1 e2
    subst e1
    obtain rfl := eq_of_heq e2
    exact .inr ⟨s, v, h1, hD, hS, .inr (hv.tfr hf (Ext.refl G))⟩
  · rcases hi k h' t' hk with ⟨v', g1, g2⟩ | ⟨s', v', g1, g2, g3, g4⟩
    · exact .inl ⟨v', Only.blk ((Only.refl (· = r) w).setCell (p := ⟨r, 1, none⟩) (.inl rfl) v) g1 e, g2.tfr hf (Ext.refl G)⟩
    · exact .inr ⟨s', v', Only.blk ((Only.refl (· = r) w).setCell (p := ⟨r, 1, none⟩) (.inl rfl) v) g1 e, g2, g3, g4.imp id fun h5 => h5.tfr hf (Ext.refl G)⟩
end Go.Proofs.YtljmklohgpaopaaGreatDoor

namespace Go.Proofs.YtljmklohgpaopaaGreatDoor
open Go.RowKit
set_option linter.unusedSectionVars false
variable [Inhabited LoT]

theorem str_leq (a b : Pl.Key) : (Op.bytesLess (tstr a).toList (tstr b).toList || (tstr a).toList == (tstr b).toList) = !decide (b < a) := by
  rw [str_less a b, tstr_beq a b]
  by_cases hab : a < b
  · rw [decide_eq_true hab, decide_eq_false (Pl.kasymm hab)]; rfl
  · by_cases hba : b < a
    · rw [decide_eq_true hba, decide_eq_false hab]
      simp [beq_eq_false_iff_ne, (Pl.kne hba).symm]
    · rw [Pl.ktri hab hba]; simp [Pl.kirr]
set_option maxHeartbeats 1000000 in
theorem way_any (b : Nat) (ks : List Pl.Key) (rs : List Nat) (k : Pl.Key) (w : World) (h : InnerAt w b ks rs) (hs : ks.Pairwise (· < ·)) (hn : ks.length ≤ 1000) :
    Calls Tryz.prog 97 #[.pointer (some ⟨b, 0, none⟩), .string (tstr k)] w fun e w' => e = .returned (.int .i64 (Pl.wayOf ks k : Nat)) ∧ Below w.heap.size w w' := by
  have hmf : ∀ (fn : Fn) (first cap : Array Value) (w : World), (Instr.makeFunc fn first cap).run Tryz.prog w = .ok (.func fn first cap) w := fun _ _ _ _ => rfl
  obtain ⟨A, cap, A', cap', hb, _, _⟩ := h.refs
  obtain ⟨w1, hw1⟩ : ∃ w1, w.alloc (.cells #[.pointer (some ⟨b, 0, none⟩)] 180) = w1 := ⟨_, rfl⟩
  obtain ⟨w2, hw2⟩ : ∃ w2, w1.alloc (.cells #[.string (tstr k)] 9) = w2 := ⟨_, rfl⟩
  have hb1 : Below w.heap.size w w1 := by rw [← hw1]; exact (Below.refl _ _).alloc (Nat.le_refl _) _
  have hb2 : Below w1.heap.size w1 w2 := by rw [← hw2]; exact (Below.refl _ _).alloc (Nat.le_refl _) _
  have B1 : Blk w1 w.heap.size 180 [.pointer (some ⟨b, 0, none⟩)] := by rw [← hw1]; exact Blk.new w 180 _
  have B2 : Blk w2 w1.heap.size 9 [.string (tstr k)] := by rw [← hw2]; exact Blk.new w1 9 _
  have B12 := B1.below hb2 B1.lt
  have hb12 := hb1.trans (hb2.mono hb1.size)
  obtain ⟨g1, hg1⟩ : ∃ g, w.heap.size = g := ⟨_, rfl⟩
  obtain ⟨g2, hg2⟩ : ∃ g, w1.heap.size = g := ⟨_, rfl⟩
  rw [hg1] at B12
  rw [hg2] at B2
  have H := Lib.hid (find_any 139 #[.pointer (some ⟨g1, 0, none⟩), .pointer (some ⟨g2, 0, none⟩)] ks.length (gtB k ks) w2 (by omega) (fun a W => enters_way a W)
    (fun W i hW hi => way1_any b g1 g2 ks rs k i W ((h.below hb12).below hW) (B12.below hW B12.lt) (B2.below hW B2.lt) hi) (gtB_mono hs))
  obtain ⟨c0, _, _, _⟩ := facts2 (hb.below hb12 hb.lt)
  obtain ⟨d0, _⟩ := facts1 B12
  obtain ⟨n, hn'⟩ : ∃ n, ks.length = n := ⟨_, rfl⟩
  have HN := Lib.hid hn'
  rw [hn'] at c0 H
  have HB := Lib.hid hb12
  clear h hs hb hb1 hb2 B1 B2 B12 hb12 hn hn'
  go_enter Tryz.func97, Tryz.ntmps97
  go_wp2_with fail
  refine H.out.mono ?_
  rintro e w3 ⟨m, rfl, h1, h2, h3, h4⟩
  have HB3 := Lib.hid (HB.out.trans (h4.mono HB.out.size))
  have HM : Hid (Pl.wayOf ks k = m) := way_unique (by rw [HN.out]; exact h1) h2 (fun t h5 h6 => h3 t h5 (by rw [← HN.out]; exact h6))
  clear h2 h3 h4
  go_wp2_with fail
  go_ret
  exact ⟨by rw [HM.out]; rfl, HB3.out⟩
set_option maxRecDepth 100000 in
set_option maxHeartbeats 1000000 in
theorem place_any (b : Nat) (ps : List Pl.Pr) (k : Pl.Key) (w : World) (h : LeafAt w b ps) (hs : Pl.Srt ps) (hn : ps.length ≤ 1000) :
    Calls Tryz.prog 96 #[.pointer (some ⟨b, 0, none⟩), .string (tstr k)] w fun e w' => e = .returned (.tuple #[.int .i64 (Pl.placeOf ps k : Nat), .bool (Pl.hasL k ps)]) ∧ Below w.heap.size w w' := by
  have hmf : ∀ (fn : Fn) (first cap : Array Value) (w : World), (Instr.makeFunc fn first cap).run Tryz.prog w = .ok (.func fn first cap) w := fun _ _ _ _ => rfl
  have hh := h
  obtain ⟨A, cap, hb, hc, hsr⟩ := hh
  obtain ⟨w1, hw1⟩ : ∃ w1, w.alloc (.cells #[.pointer (some ⟨b, 0, none⟩)] 161) = w1 := ⟨_, rfl⟩
  obtain ⟨w2, hw2⟩ : ∃ w2, w1.alloc (.cells #[.string (tstr k)] 9) = w2 := ⟨_, rfl⟩
  have hb1 : Below w.heap.size w w1 := by rw [← hw1]; exact (Below.refl _ _).alloc (Nat.le_refl _) _
  have hb2 : Below w1.heap.size w1 w2 := by rw [← hw2]; exact (Below.refl _ _).alloc (Nat.le_refl _) _
  have B1 : Blk w1 w.heap.size 161 [.pointer (some ⟨b, 0, none⟩)] := by rw [← hw1]; exact Blk.new w 161 _
  have B2 : Blk w2 w1.heap.size 9 [.string (tstr k)] := by rw [← hw2]; exact Blk.new w1 9 _
  have B12 := B1.below hb2 B1.lt
  have hb12 := hb1.trans (hb2.mono hb1.size)
  obtain ⟨g1, hg1⟩ : ∃ g, w.heap.size = g := ⟨_, rfl⟩
  obtain ⟨g2, hg2⟩ : ∃ g, w1.heap.size = g := ⟨_, rfl⟩
  rw [hg1] at B12
  rw [hg2] at B2
  have H := Lib.hid (find_any 138 #[.pointer (some ⟨g1, 0, none⟩), .pointer (some ⟨g2, 0, none⟩)] ps.length (geB k ps) w2 (by omega) (fun a W => enters_place a W)
    (fun W i hW hi => place1_any b g1 g2 ps k i W ((h.below hb12).below hW) (B12.below hW B12.lt) (B2.below hW B2.lt) hi) (geB_mono hs))
  obtain ⟨c0, _⟩ := facts1 (hb.below hb12 hb.lt)
  obtain ⟨d0, _⟩ := facts1 B12
  obtain ⟨n, hn'⟩ : ∃ n, ps.length = n := ⟨_, rfl⟩
  have HN := Lib.hid hn'
  rw [hn'] at c0 H
  have HBL := Lib.hid (hb.below hb12 hb.lt)
  have HS := Lib.hid (hsr.below hb12)
  have H12 := Lib.hid B12
  have H2 := Lib.hid B2
  have HB := Lib.hid hb12
  clear h hs hb hb1 hb2 B1 B2 B12 hb12 hn hn' hsr hc
  go_enter Tryz.func96, Tryz.ntmps96
  go_wp2_with fail
  refine H.out.mono ?_
  rintro e w3 ⟨m, rfl, h1, h2, h3, h4⟩
  have HB3 := Lib.hid (HB.out.trans (h4.mono HB.out.size))
  have HM : Hid (Pl.placeOf ps k = m) := place_unique (by rw [HN.out]; exact h1) h2 (fun t h5 h6 => h3 t h5 (by rw [← HN.out]; exact h6))
  obtain ⟨c0, _⟩ := facts1 (HBL.out.below h4 HBL.out.lt)
  rw [HN.out] at c0
  obtain ⟨d0, _⟩ := facts1 (H12.out.below h4 H12.out.lt)
  obtain ⟨e0, _⟩ := facts1 (H2.out.below h4 H2.out.lt)
  have HS3 := Lib.hid (HS.out.below h4)
  have HH : Hid (Pl.hasL k ps = match ps[m]? with | some p => decide (p.key = k) | none => false) := by
    rw [Hid]; unfold Pl.hasL; rw [HM.out]; cases ps[m]? <;> rfl
  clear h2 h3 h4 H
  by_cases hmn : m < n
  · obtain ⟨p, hp⟩ : ∃ p, ps[m]? = some p := ⟨_, List.getElem?_eq_getElem (by rw [HN.out]; exact hmn)⟩
    have at_ := flat_at (f := prCells) (s := 2) (fun _ => rfl) ps m p hp
    obtain ⟨b2, off, rfl, g0⟩ := HS3.out.1.at_ _ _ (at_ 0 (by omega))
    rw [Nat.add_zero] at g0
    have q1 : decide ((m : Int) < (n : Int)) = true := decide_eq_true (by omega)
    have q2 : (m : Int) < (n : Int) := by omega
    have hbq := tstr_beq p.key k
    have HH2 : Hid (Pl.hasL k ps = (p.key == k)) := by rw [Hid, HH.out, hp]; by_cases h : p.key = k <;> simp [h]
    obtain ⟨st, hst⟩ : ∃ st, tstr k = st := ⟨_, rfl⟩
    obtain ⟨sx, hsx⟩ : ∃ st, tstr p.key = st := ⟨_, rfl⟩
    rw [hst] at e0 hbq
    rw [hsx] at g0 hbq
    have HQ := Lib.hid hbq
    clear at_ hp hst hsx hbq HH
    go_wp2_with fail
    go_quiet (fail)
    go_wp2_with fail
    go_ret2
    exact ⟨by rw [HM.out, HH2.out, HQ.out]; rfl, below_drewN HB3.out _⟩
  · have q1 : decide ((m : Int) < (n : Int)) = false := decide_eq_false (by omega)
    have HH2 : Hid (Pl.hasL k ps = false) := by rw [Hid, HH.out, List.getElem?_eq_none (by rw [HN.out]; omega)]
    clear HH
    go_wp2_with fail
    go_quiet (fail)
    go_wp2_with fail
    go_ret2
    exact ⟨by rw [HM.out, HH2.out]; rfl, below_drewN HB3.out _⟩
theorem treeKey_any (k : Pl.Key) (w : World) (h : Pl.KeyFit k) : Calls Tryz.prog 87 #[.string (tstr k)] w fun e w' => e = .returned (.bool true) ∧ w = w' := by
  obtain ⟨h1, h2⟩ := h
  have hsz := tstr_size k
  obtain ⟨st, hst⟩ : ∃ st, tstr k = st := ⟨_, rfl⟩
  rw [hst] at hsz ⊢
  have q1 : decide ((st.size : Int) ≥ 1) = true := decide_eq_true (by omega)
  have q2 : decide ((st.size : Int) ≤ 40) = true := decide_eq_true (by omega)
  have q3 : (1 : Int) ≤ (st.size : Int) := by omega
  have q4 : (st.size : Int) ≤ 40 := by omega
  clear hsz hst h1 h2
  go_enter Tryz.func87, Tryz.ntmps87
  go_wp2_with fail
  go_ret
  exact ⟨by first | rfl | simp [q3, q4], rfl⟩
theorem treeVal_any (k : List UInt8) (w : World) (h : k.length ≤ 100) : Calls Tryz.prog 88 #[.string (tstr k)] w fun e w' => e = .returned (.bool true) ∧ w = w' := by
  have hsz := tstr_size k
  obtain ⟨st, hst⟩ : ∃ st, tstr k = st := ⟨_, rfl⟩
  rw [hst] at hsz ⊢
  have q4 : (st.size : Int) ≤ 100 := by omega
  clear hsz hst h
  go_enter Tryz.func88, Tryz.ntmps88
  go_wp2_with fail
  go_ret
  exact ⟨by first | rfl | simp [q4], rfl⟩
def spanV (lo : Pl.Key) (hi : Option Pl.Key) : Value := .agg #[.string (tstr lo), .string (tstr (hi.getD [])), .bool hi.isNone]
theorem facts3' {w : World} {g : Nat} {t : TypeId} {a0 a1 a2 : Value} (h : Blk w g t [a0, a1, a2]) : w.cell? ⟨g, 0, none⟩ = some a0 ∧ w.cell? ⟨g, 1, none⟩ = some a1 ∧ w.cell? ⟨g, 2, none⟩ = some a2 ∧ w.frozen? ⟨g, 0, none⟩ = false ∧ w.frozen? ⟨g, 1, none⟩ = false ∧ w.frozen? ⟨g, 2, none⟩ = false := ⟨h.cell 0, h.cell 1, h.cell 2, h.frozen 0, h.frozen 1, h.frozen 2⟩
theorem has_any (lo : Pl.Key) (hi : Option Pl.Key) (k : Pl.Key) (w : World) (h : Pl.InS lo hi k) : Calls Tryz.prog 164 #[spanV lo hi, .string (tstr k)] w fun e w' => e = .returned (.bool true) ∧ Below w.heap.size w w' := by
  obtain ⟨w1, hw1⟩ : ∃ w1, w.alloc (.cells #[.string (tstr lo), .string (tstr (hi.getD [])), .bool hi.isNone] 178) = w1 := ⟨_, rfl⟩
  have hb1 : Below w.heap.size w w1 := by rw [← hw1]; exact (Below.refl _ _).alloc (Nat.le_refl _) _
  have B1 : Blk w1 w.heap.size 178 [.string (tstr lo), .string (tstr (hi.getD [])), .bool hi.isNone] := by rw [← hw1]; exact Blk.new w 178 _
  obtain ⟨c0, c1, c2, _, _, _⟩ := facts3' B1
  have HB := Lib.hid hb1
  have l1 := str_less k lo
  rw [decide_eq_false h.1] at l1
  have l2 : Hid (∀ x, hi = some x → Op.bytesLess (tstr k).toList (tstr x).toList = true) := fun x hx => by rw [str_less, decide_eq_true (h.2 x hx)]
  clear hb1 B1 h
  obtain ⟨sk, hsk⟩ : ∃ s, tstr k = s := ⟨_, rfl⟩
  obtain ⟨sl, hsl⟩ : ∃ s, tstr lo = s := ⟨_, rfl⟩
  rw [hsk] at l1 l2 ⊢
  rw [hsl] at l1 c0 hw1
  unfold spanV
  rw [hsl]
  clear hsk hsl
  cases hi with
  | none =>
    simp only [Option.isNone_none, Option.getD_none] at c1 c2 hw1 ⊢
    go_enter Tryz.func164, Tryz.ntmps164
    go_wp2_with fail
    go_ret
    exact ⟨rfl, HB.out⟩
  | some x =>
    have l3 := l2.out x rfl
    simp only [Option.isNone_some, Option.getD_some] at c1 c2 hw1 ⊢
    obtain ⟨sx, hsx⟩ : ∃ s, tstr x = s := ⟨_, rfl⟩
    rw [hsx] at l3 c1 hw1 ⊢
    clear hsx
    go_enter Tryz.func164, Tryz.ntmps164
    go_wp2_with fail
    go_ret
    exact ⟨rfl, HB.out⟩
end Go.Proofs.YtljmklohgpaopaaGreatDoor
