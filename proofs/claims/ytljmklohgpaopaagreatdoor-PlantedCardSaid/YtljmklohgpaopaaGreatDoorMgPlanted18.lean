/- A tree: what Put does to a leaf. A tree: something is done; Put. A tree: what Delete does to a leaf. -/
import Derived.Test.YtljmklohgpaopaaGreatDoorMgPlanted16
import Derived.Test.YtljmklohgpaopaaGreatDoorMgPlanted17
set_option linter.unusedVariables false
set_option linter.unusedSimpArgs false

namespace Go.Proofs.YtljmklohgpaopaaGreatDoor
open Go.RowKit
set_option linter.unusedSectionVars false
variable [Inhabited LoT]

theorem TSrc.at2 {w : World} {A : Option Addr} {ps : List Pl.Pr} (h : TSrc w A (prsCells ps) 175) (h0 : 0 < ps.length) : ∃ b off, A = some ⟨b, off, none⟩ := h.at_off (by
  intro e
  have := prsCells_len ps
  rw [e] at this
  simp at this
  omega)
theorem prsCells_take (ps : List Pl.Pr) (k : Nat) (hk : k ≤ ps.length) : (prsCells ps).take (k * 2) = prsCells (ps.take k) := by
  conv => lhs; rw [← List.take_append_drop k ps, prsCells_append]
  rw [List.take_left' (by rw [prsCells_len, List.length_take, Nat.min_eq_left hk])]
theorem prsCells_drop (ps : List Pl.Pr) (k : Nat) (hk : k ≤ ps.length) : (prsCells ps).drop (k * 2) = prsCells (ps.drop k) := by
  conv => lhs; rw [← List.take_append_drop k ps, prsCells_append]
  rw [List.drop_left' (by rw [prsCells_len, List.length_take, Nat.min_eq_left hk])]
/-- From where on the pairs stay. -/
def restAt (ps : List Pl.Pr) (k : Pl.Key) : Nat := if Pl.hasL k ps then Pl.placeOf ps k + 1 else Pl.placeOf ps k
theorem restOf_at (ps : List Pl.Pr) (k : Pl.Key) : Pl.restOf ps k = ps.drop (restAt ps k) := by
  unfold Pl.restOf restAt Pl.hasL
  cases h : ps[Pl.placeOf ps k]? with
  | none => rfl
  | some p =>
    by_cases hp : p.key = k
    · simp [hp]
    · simp [hp]
theorem restAt_le (ps : List Pl.Pr) (k : Pl.Key) : restAt ps k ≤ ps.length := by
  unfold restAt
  split
  · next h => have := Pl.hasL_lt h; omega
  · exact Pl.placeOf_le ps k
theorem enters_put11 (args : Array Value) (W : World) : (callFunc 92 args).run Tryz.prog W = .ok (.enter 92 args) W := by simp [go_sem]
set_option maxRecDepth 100000 in
set_option maxHeartbeats 4000000 in
theorem put11_any (gk gv b : Nat) (k v : Pl.Key) (ps : List Pl.Pr) (w : World) (hk : Blk w gk 9 [.string (tstr k)]) (hv : Blk w gv 9 [.string (tstr v)]) (hl : LeafAt w b ps) (hn : ps.length ≤ 500) :
    Calls Tryz.prog 92 #[.pointer (some ⟨b, 0, none⟩), .int .i64 (Pl.placeOf ps k : Nat), .bool (Pl.hasL k ps), .pointer (some ⟨gk, 0, none⟩), .pointer (some ⟨gv, 0, none⟩)] w fun e w' =>
      (∃ A cap, e = .returned (.slice A (Pl.putL k v ps).length cap) ∧ TSrc w' A (prsCells (Pl.putL k v ps)) 175) ∧ Below w.heap.size w w' := by
  obtain ⟨A, ca, hb, hca, ht⟩ := hl
  have hple := Pl.placeOf_le ps k
  have hrle := restAt_le ps k
  have hpu : Pl.putL k v ps = ps.take (Pl.placeOf ps k) ++ [⟨k, v⟩] ++ ps.drop (restAt ps k) := by rw [Pl.putL_eq, restOf_at]; simp
  have hra : restAt ps k = if Pl.hasL k ps then Pl.placeOf ps k + 1 else Pl.placeOf ps k := rfl
  rw [hpu]
  obtain ⟨n, hnl⟩ : ∃ n, ps.length = n := ⟨_, rfl⟩
  obtain ⟨i, hi⟩ : ∃ n, Pl.placeOf ps k = n := ⟨_, rfl⟩
  obtain ⟨j, hj⟩ : ∃ n, restAt ps k = n := ⟨_, rfl⟩
  obtain ⟨B, hB⟩ : ∃ n, Pl.hasL k ps = n := ⟨_, rfl⟩
  rw [hi, hj, hB] at hra
  rw [hi, hj, hB]
  rw [hnl] at hple hrle hn hca
  rw [hi] at hple
  rw [hj] at hrle
  have HB := Lib.hid (show Blk w b 164 [.slice A n ca] by rw [← hnl]; exact hb)
  have HT := Lib.hid ht
  have HK := Lib.hid hk
  have HV := Lib.hid hv
  have HN := Lib.hid hnl
  have HTK : Hid (∀ W, Below w.heap.size w W → Src W A (prsCells (ps.take i))) := fun W hW => by
    have := ((HT.out.below hW).take (i * 2)).1
    rw [prsCells_take ps i (by omega)] at this
    exact this
  have HTD : Hid (∀ (W : World) (b0 o0 : Nat), Below w.heap.size w W → A = some ⟨b0, o0, none⟩ → Src W (some ⟨b0, o0 + j * 2, none⟩) (prsCells (ps.drop j))) := fun W b0 o0 hW hA => by
    have h1 := HT.out.below hW
    rw [hA] at h1
    have := (h1.drop (j * 2)).1
    rw [prsCells_drop ps j (by omega)] at this
    exact this
  have HNB : Hid (i ≤ n ∧ j ≤ n ∧ n ≤ 500 ∧ n ≤ ca) := ⟨hple, hrle, hn, hca⟩
  obtain ⟨c0, _⟩ := facts1 HB.out
  obtain ⟨d0, _⟩ := facts1 hk
  obtain ⟨e0, _⟩ := facts1 hv
  have q1 : (i : Int) ≤ (n : Int) := by omega
  have q2 : (i : Int) ≤ (ca : Int) := by omega
  have q3 : (n : Int) ≤ (ca : Int) := by omega
  clear hb ht hk hv hnl hi hj hB hpu
  by_cases hn0 : n = 0
  · have hps : ps = [] := List.length_eq_zero_iff.1 (by rw [HN.out]; exact hn0)
    subst hn0
    obtain rfl : i = 0 := by omega
    obtain rfl : j = 0 := by omega
    have hB : B = false := by
      cases B with
      | false => rfl
      | true => rw [if_pos rfl] at hra; omega
    subst hB
    have HNL : Hid (∀ (W : World) (A : Option Addr), Src W A (prsCells (ps.drop 0))) := fun W A => .inl (by rw [hps]; rfl)
    clear hps hra
    rcases A with _ | a
    all_goals
      by_cases hcap : ca = 0
      · subst hcap
        go_enter Tryz.func92, Tryz.ntmps92
        go_wp2_with (first
          | (at_builtin
             refine wpList_rw Tryz.eltPair rfl (.const (.slice none 0 0)) (.tmp 15) rfl rfl (Rw.nil w w.heap.size) _ 0 _ (prsCells (ps.take 0)) rfl (by rw [prsCells_len, List.length_take, HN.out, Nat.min_eq_left (by have := HNB.out; omega)]) (HTK.out w (Below.refl _ _)) (prsCells_one _) (by have := HNB.out; omega) (Nat.le_refl _) ?_
             intro v1 w1 r1 m1
             rw [Nat.zero_add, List.nil_append] at r1
             have R1 := Lib.hid r1
             have HB1 := Lib.hid (Mv.fresh m1)
             obtain ⟨Av1, cv1, rfl, _, _, _⟩ := r1.tsrc
             obtain ⟨d0, _⟩ := facts1 (HK.out.below HB1.out HK.out.lt)
             obtain ⟨e0, _⟩ := facts1 (HV.out.below HB1.out HV.out.lt)
             obtain ⟨c0, _⟩ := facts1 (HB.out.below HB1.out HB.out.lt)
             obtain ⟨gs, hgs⟩ : ∃ g, w1.heap.size = g := ⟨_, rfl⟩
             obtain ⟨w2, hw2⟩ : ∃ x, w1.alloc (.cells #[.string (tstr k), .string (tstr v)] 175) = x := ⟨_, rfl⟩
             have hb2 : Below w1.heap.size w1 w2 := by rw [← hw2]; exact (Below.refl _ _).alloc (Nat.le_refl _) _
             have HS2 : Hid (Src w2 (some ⟨gs, 0, none⟩) (prsCells [⟨k, v⟩])) := by rw [← hw2, ← hgs]; exact src_pair w1 ⟨k, v⟩
             have R2 := Lib.hid (R1.out.below hb2)
             have HB2 := Lib.hid (HB1.out.trans (hb2.mono HB1.out.size))
             clear r1 m1 hb2)
          | (at_builtin
             refine wpList_rw Tryz.eltPair rfl (.tmp 17) (.tmp 21) rfl rfl R2.out (some ⟨gs, 0, none⟩) 1 1 (prsCells [⟨k, v⟩]) rfl rfl HS2.out (prsCells_one _) (by have := HNB.out; omega) HB2.out.size ?_
             intro v3 w3 r3 m3
             have R3 := Lib.hid r3
             obtain ⟨Av3, cv3, rfl, _, _, _⟩ := r3.tsrc
             have HB3 := Lib.hid (Mv.since HB2.out R2.out m3)
             obtain ⟨c0, _⟩ := facts1 (HB.out.below HB3.out HB.out.lt)
             clear r3 m3)
          | (at_builtin
             refine wpList_rw Tryz.eltPair rfl (.tmp 26) (.tmp 32) rfl rfl R3.out _ (0 - 0) _ (prsCells (ps.drop 0)) rfl (by rw [prsCells_len, List.length_drop, HN.out]) (HNL.out _ _) (prsCells_one _) (by have := HNB.out; omega) HB3.out.size ?_
             intro v4 w4 r4 m4
             have R4 := Lib.hid r4
             have HB4 := Lib.hid (Mv.since HB3.out R3.out m4)
             clear r4 m4)
          | fail)
        go_ret
        obtain ⟨A4, cap4, e4, _, h4, _⟩ := R4.out.tsrc
        rw [← prsCells_append, ← prsCells_append] at h4
        have hlen : (ps.take 0 ++ [(⟨k, v⟩ : Pl.Pr)] ++ ps.drop 0).length = 0 + 1 + (0 - 0) := by rw [List.length_append, List.length_append, List.length_take, List.length_drop, HN.out, Nat.min_eq_left (by have := HNB.out; omega)]; rfl
        rw [hlen]
        exact ⟨⟨A4, cap4, by show Ending.returned v4 = _; rw [e4], h4⟩, HB4.out⟩
      · have hcap' : 0 < ca := by omega
        go_enter Tryz.func92, Tryz.ntmps92
        go_wp2_with (first
          | (at_builtin
             refine wpList_rw Tryz.eltPair rfl (.const (.slice none 0 0)) (.tmp 15) rfl rfl (Rw.nil w w.heap.size) _ 0 _ (prsCells (ps.take 0)) rfl (by rw [prsCells_len, List.length_take, HN.out, Nat.min_eq_left (by have := HNB.out; omega)]) (HTK.out w (Below.refl _ _)) (prsCells_one _) (by have := HNB.out; omega) (Nat.le_refl _) ?_
             intro v1 w1 r1 m1
             rw [Nat.zero_add, List.nil_append] at r1
             have R1 := Lib.hid r1
             have HB1 := Lib.hid (Mv.fresh m1)
             obtain ⟨Av1, cv1, rfl, _, _, _⟩ := r1.tsrc
             obtain ⟨d0, _⟩ := facts1 (HK.out.below HB1.out HK.out.lt)
             obtain ⟨e0, _⟩ := facts1 (HV.out.below HB1.out HV.out.lt)
             obtain ⟨c0, _⟩ := facts1 (HB.out.below HB1.out HB.out.lt)
             obtain ⟨gs, hgs⟩ : ∃ g, w1.heap.size = g := ⟨_, rfl⟩
             obtain ⟨w2, hw2⟩ : ∃ x, w1.alloc (.cells #[.string (tstr k), .string (tstr v)] 175) = x := ⟨_, rfl⟩
             have hb2 : Below w1.heap.size w1 w2 := by rw [← hw2]; exact (Below.refl _ _).alloc (Nat.le_refl _) _
             have HS2 : Hid (Src w2 (some ⟨gs, 0, none⟩) (prsCells [⟨k, v⟩])) := by rw [← hw2, ← hgs]; exact src_pair w1 ⟨k, v⟩
             have R2 := Lib.hid (R1.out.below hb2)
             have HB2 := Lib.hid (HB1.out.trans (hb2.mono HB1.out.size))
             clear r1 m1 hb2)
          | (at_builtin
             refine wpList_rw Tryz.eltPair rfl (.tmp 17) (.tmp 21) rfl rfl R2.out (some ⟨gs, 0, none⟩) 1 1 (prsCells [⟨k, v⟩]) rfl rfl HS2.out (prsCells_one _) (by have := HNB.out; omega) HB2.out.size ?_
             intro v3 w3 r3 m3
             have R3 := Lib.hid r3
             obtain ⟨Av3, cv3, rfl, _, _, _⟩ := r3.tsrc
             have HB3 := Lib.hid (Mv.since HB2.out R2.out m3)
             obtain ⟨c0, _⟩ := facts1 (HB.out.below HB3.out HB.out.lt)
             clear r3 m3)
          | (at_builtin
             refine wpList_rw Tryz.eltPair rfl (.tmp 26) (.tmp 32) rfl rfl R3.out _ (0 - 0) _ (prsCells (ps.drop 0)) rfl (by rw [prsCells_len, List.length_drop, HN.out]) (HNL.out _ _) (prsCells_one _) (by have := HNB.out; omega) HB3.out.size ?_
             intro v4 w4 r4 m4
             have R4 := Lib.hid r4
             have HB4 := Lib.hid (Mv.since HB3.out R3.out m4)
             clear r4 m4)
          | fail)
        go_ret
        obtain ⟨A4, cap4, e4, _, h4, _⟩ := R4.out.tsrc
        rw [← prsCells_append, ← prsCells_append] at h4
        have hlen : (ps.take 0 ++ [(⟨k, v⟩ : Pl.Pr)] ++ ps.drop 0).length = 0 + 1 + (0 - 0) := by rw [List.length_append, List.length_append, List.length_take, List.length_drop, HN.out, Nat.min_eq_left (by have := HNB.out; omega)]; rfl
        rw [hlen]
        exact ⟨⟨A4, cap4, by show Ending.returned v4 = _; rw [e4], h4⟩, HB4.out⟩
  · obtain ⟨b0, o0, rfl⟩ := HT.out.at2 (by rw [HN.out]; omega)
    cases B with
    | true =>
      rw [if_pos rfl] at hra
      subst hra
      have q5 : (i : Int) + 1 ≤ (n : Int) := by omega
      have q6 : (i : Int) + 1 ≤ (ca : Int) := by omega
      by_cases hcap : ca = i + 1
      · have HNL : Hid (∀ (W : World) (A : Option Addr), Src W A (prsCells (ps.drop (i + 1)))) := fun W A => .inl (by
          rw [List.drop_eq_nil_iff.2 (by rw [HN.out]; omega)]; rfl)
        have q7 : (n : Int) ≤ (i : Int) + 1 := by omega
        subst hcap
        go_enter Tryz.func92, Tryz.ntmps92
        go_wp2_with (first
          | (at_builtin
             refine wpList_rw Tryz.eltPair rfl (.const (.slice none 0 0)) (.tmp 15) rfl rfl (Rw.nil w w.heap.size) _ i _ (prsCells (ps.take i)) rfl (by rw [prsCells_len, List.length_take, HN.out, Nat.min_eq_left (by have := HNB.out; omega)]) (HTK.out w (Below.refl _ _)) (prsCells_one _) (by have := HNB.out; omega) (Nat.le_refl _) ?_
             intro v1 w1 r1 m1
             rw [Nat.zero_add, List.nil_append] at r1
             have R1 := Lib.hid r1
             have HB1 := Lib.hid (Mv.fresh m1)
             obtain ⟨Av1, cv1, rfl, _, _, _⟩ := r1.tsrc
             obtain ⟨d0, _⟩ := facts1 (HK.out.below HB1.out HK.out.lt)
             obtain ⟨e0, _⟩ := facts1 (HV.out.below HB1.out HV.out.lt)
             obtain ⟨c0, _⟩ := facts1 (HB.out.below HB1.out HB.out.lt)
             obtain ⟨gs, hgs⟩ : ∃ g, w1.heap.size = g := ⟨_, rfl⟩
             obtain ⟨w2, hw2⟩ : ∃ x, w1.alloc (.cells #[.string (tstr k), .string (tstr v)] 175) = x := ⟨_, rfl⟩
             have hb2 : Below w1.heap.size w1 w2 := by rw [← hw2]; exact (Below.refl _ _).alloc (Nat.le_refl _) _
             have HS2 : Hid (Src w2 (some ⟨gs, 0, none⟩) (prsCells [⟨k, v⟩])) := by rw [← hw2, ← hgs]; exact src_pair w1 ⟨k, v⟩
             have R2 := Lib.hid (R1.out.below hb2)
             have HB2 := Lib.hid (HB1.out.trans (hb2.mono HB1.out.size))
             clear r1 m1 hb2)
          | (at_builtin
             refine wpList_rw Tryz.eltPair rfl (.tmp 17) (.tmp 21) rfl rfl R2.out (some ⟨gs, 0, none⟩) 1 1 (prsCells [⟨k, v⟩]) rfl rfl HS2.out (prsCells_one _) (by have := HNB.out; omega) HB2.out.size ?_
             intro v3 w3 r3 m3
             have R3 := Lib.hid r3
             obtain ⟨Av3, cv3, rfl, _, _, _⟩ := r3.tsrc
             have HB3 := Lib.hid (Mv.since HB2.out R2.out m3)
             obtain ⟨c0, _⟩ := facts1 (HB.out.below HB3.out HB.out.lt)
             clear r3 m3)
          | (at_builtin
             refine wpList_rw Tryz.eltPair rfl (.tmp 26) (.tmp 32) rfl rfl R3.out _ 0 _ (prsCells (ps.drop (i + 1))) rfl (by rw [prsCells_len, List.length_drop, HN.out]; have := HNB.out; omega) (HNL.out _ _) (prsCells_one _) (by have := HNB.out; omega) HB3.out.size ?_
             intro v4 w4 r4 m4
             have R4 := Lib.hid r4
             have HB4 := Lib.hid (Mv.since HB3.out R3.out m4)
             clear r4 m4)
          | fail)
        go_ret
        obtain ⟨A4, cap4, e4, _, h4, _⟩ := R4.out.tsrc
        rw [← prsCells_append, ← prsCells_append] at h4
        have hlen : (ps.take i ++ [(⟨k, v⟩ : Pl.Pr)] ++ ps.drop (i + 1)).length = i + 1 + 0 := by rw [List.length_append, List.length_append, List.length_take, List.length_drop, HN.out, Nat.min_eq_left (by have := HNB.out; omega), List.length_singleton]; have := HNB.out; omega
        rw [hlen]
        exact ⟨⟨A4, cap4, by show Ending.returned v4 = _; rw [e4], h4⟩, HB4.out⟩
      · go_enter Tryz.func92, Tryz.ntmps92
        go_wp2_with (first
          | (at_builtin
             refine wpList_rw Tryz.eltPair rfl (.const (.slice none 0 0)) (.tmp 15) rfl rfl (Rw.nil w w.heap.size) _ i _ (prsCells (ps.take i)) rfl (by rw [prsCells_len, List.length_take, HN.out, Nat.min_eq_left (by have := HNB.out; omega)]) (HTK.out w (Below.refl _ _)) (prsCells_one _) (by have := HNB.out; omega) (Nat.le_refl _) ?_
             intro v1 w1 r1 m1
             rw [Nat.zero_add, List.nil_append] at r1
             have R1 := Lib.hid r1
             have HB1 := Lib.hid (Mv.fresh m1)
             obtain ⟨Av1, cv1, rfl, _, _, _⟩ := r1.tsrc
             obtain ⟨d0, _⟩ := facts1 (HK.out.below HB1.out HK.out.lt)
             obtain ⟨e0, _⟩ := facts1 (HV.out.below HB1.out HV.out.lt)
             obtain ⟨c0, _⟩ := facts1 (HB.out.below HB1.out HB.out.lt)
             obtain ⟨gs, hgs⟩ : ∃ g, w1.heap.size = g := ⟨_, rfl⟩
             obtain ⟨w2, hw2⟩ : ∃ x, w1.alloc (.cells #[.string (tstr k), .string (tstr v)] 175) = x := ⟨_, rfl⟩
             have hb2 : Below w1.heap.size w1 w2 := by rw [← hw2]; exact (Below.refl _ _).alloc (Nat.le_refl _) _
             have HS2 : Hid (Src w2 (some ⟨gs, 0, none⟩) (prsCells [⟨k, v⟩])) := by rw [← hw2, ← hgs]; exact src_pair w1 ⟨k, v⟩
             have R2 := Lib.hid (R1.out.below hb2)
             have HB2 := Lib.hid (HB1.out.trans (hb2.mono HB1.out.size))
             clear r1 m1 hb2)
          | (at_builtin
             refine wpList_rw Tryz.eltPair rfl (.tmp 17) (.tmp 21) rfl rfl R2.out (some ⟨gs, 0, none⟩) 1 1 (prsCells [⟨k, v⟩]) rfl rfl HS2.out (prsCells_one _) (by have := HNB.out; omega) HB2.out.size ?_
             intro v3 w3 r3 m3
             have R3 := Lib.hid r3
             obtain ⟨Av3, cv3, rfl, _, _, _⟩ := r3.tsrc
             have HB3 := Lib.hid (Mv.since HB2.out R2.out m3)
             obtain ⟨c0, _⟩ := facts1 (HB.out.below HB3.out HB.out.lt)
             clear r3 m3)
          | (at_builtin
             refine wpList_rw Tryz.eltPair rfl (.tmp 26) (.tmp 32) rfl rfl R3.out _ (n - (i + 1)) _ (prsCells (ps.drop (i + 1))) rfl (by rw [prsCells_len, List.length_drop, HN.out]) (HTD.out _ b0 o0 HB3.out rfl) (prsCells_one _) (by have := HNB.out; omega) HB3.out.size ?_
             intro v4 w4 r4 m4
             have R4 := Lib.hid r4
             have HB4 := Lib.hid (Mv.since HB3.out R3.out m4)
             clear r4 m4)
          | fail)
        go_ret
        obtain ⟨A4, cap4, e4, _, h4, _⟩ := R4.out.tsrc
        rw [← prsCells_append, ← prsCells_append] at h4
        have hlen : (ps.take i ++ [(⟨k, v⟩ : Pl.Pr)] ++ ps.drop (i + 1)).length = i + 1 + (n - (i + 1)) := by rw [List.length_append, List.length_append, List.length_take, List.length_drop, HN.out, Nat.min_eq_left (by have := HNB.out; omega)]; rfl
        rw [hlen]
        exact ⟨⟨A4, cap4, by show Ending.returned v4 = _; rw [e4], h4⟩, HB4.out⟩
    | false =>
      rw [if_neg (by decide)] at hra
      subst hra
      by_cases hcap : ca = j
      · have HNL : Hid (∀ (W : World) (A : Option Addr), Src W A (prsCells (ps.drop j))) := fun W A => .inl (by
          rw [List.drop_eq_nil_iff.2 (by rw [HN.out]; omega)]; rfl)
        subst hcap
        go_enter Tryz.func92, Tryz.ntmps92
        go_wp2_with (first
          | (at_builtin
             refine wpList_rw Tryz.eltPair rfl (.const (.slice none 0 0)) (.tmp 15) rfl rfl (Rw.nil w w.heap.size) _ ca _ (prsCells (ps.take ca)) rfl (by rw [prsCells_len, List.length_take, HN.out, Nat.min_eq_left (by have := HNB.out; omega)]) (HTK.out w (Below.refl _ _)) (prsCells_one _) (by have := HNB.out; omega) (Nat.le_refl _) ?_
             intro v1 w1 r1 m1
             rw [Nat.zero_add, List.nil_append] at r1
             have R1 := Lib.hid r1
             have HB1 := Lib.hid (Mv.fresh m1)
             obtain ⟨Av1, cv1, rfl, _, _, _⟩ := r1.tsrc
             obtain ⟨d0, _⟩ := facts1 (HK.out.below HB1.out HK.out.lt)
             obtain ⟨e0, _⟩ := facts1 (HV.out.below HB1.out HV.out.lt)
             obtain ⟨c0, _⟩ := facts1 (HB.out.below HB1.out HB.out.lt)
             obtain ⟨gs, hgs⟩ : ∃ g, w1.heap.size = g := ⟨_, rfl⟩
             obtain ⟨w2, hw2⟩ : ∃ x, w1.alloc (.cells #[.string (tstr k), .string (tstr v)] 175) = x := ⟨_, rfl⟩
             have hb2 : Below w1.heap.size w1 w2 := by rw [← hw2]; exact (Below.refl _ _).alloc (Nat.le_refl _) _
             have HS2 : Hid (Src w2 (some ⟨gs, 0, none⟩) (prsCells [⟨k, v⟩])) := by rw [← hw2, ← hgs]; exact src_pair w1 ⟨k, v⟩
             have R2 := Lib.hid (R1.out.below hb2)
             have HB2 := Lib.hid (HB1.out.trans (hb2.mono HB1.out.size))
             clear r1 m1 hb2)
          | (at_builtin
             refine wpList_rw Tryz.eltPair rfl (.tmp 17) (.tmp 21) rfl rfl R2.out (some ⟨gs, 0, none⟩) 1 1 (prsCells [⟨k, v⟩]) rfl rfl HS2.out (prsCells_one _) (by have := HNB.out; omega) HB2.out.size ?_
             intro v3 w3 r3 m3
             have R3 := Lib.hid r3
             obtain ⟨Av3, cv3, rfl, _, _, _⟩ := r3.tsrc
             have HB3 := Lib.hid (Mv.since HB2.out R2.out m3)
             obtain ⟨c0, _⟩ := facts1 (HB.out.below HB3.out HB.out.lt)
             clear r3 m3)
          | (at_builtin
             refine wpList_rw Tryz.eltPair rfl (.tmp 26) (.tmp 32) rfl rfl R3.out _ 0 _ (prsCells (ps.drop ca)) rfl (by rw [prsCells_len, List.length_drop, HN.out]; have := HNB.out; omega) (HNL.out _ _) (prsCells_one _) (by have := HNB.out; omega) HB3.out.size ?_
             intro v4 w4 r4 m4
             have R4 := Lib.hid r4
             have HB4 := Lib.hid (Mv.since HB3.out R3.out m4)
             clear r4 m4)
          | fail)
        go_ret
        obtain ⟨A4, cap4, e4, _, h4, _⟩ := R4.out.tsrc
        rw [← prsCells_append, ← prsCells_append] at h4
        have hlen : (ps.take ca ++ [(⟨k, v⟩ : Pl.Pr)] ++ ps.drop ca).length = ca + 1 + 0 := by rw [List.length_append, List.length_append, List.length_take, List.length_drop, HN.out, Nat.min_eq_left (by have := HNB.out; omega), List.length_singleton]; have := HNB.out; omega
        rw [hlen]
        exact ⟨⟨A4, cap4, by show Ending.returned v4 = _; rw [e4], h4⟩, HB4.out⟩
      · go_enter Tryz.func92, Tryz.ntmps92
        go_wp2_with (first
          | (at_builtin
             refine wpList_rw Tryz.eltPair rfl (.const (.slice none 0 0)) (.tmp 15) rfl rfl (Rw.nil w w.heap.size) _ j _ (prsCells (ps.take j)) rfl (by rw [prsCells_len, List.length_take, HN.out, Nat.min_eq_left (by have := HNB.out; omega)]) (HTK.out w (Below.refl _ _)) (prsCells_one _) (by have := HNB.out; omega) (Nat.le_refl _) ?_
             intro v1 w1 r1 m1
             rw [Nat.zero_add, List.nil_append] at r1
             have R1 := Lib.hid r1
             have HB1 := Lib.hid (Mv.fresh m1)
             obtain ⟨Av1, cv1, rfl, _, _, _⟩ := r1.tsrc
             obtain ⟨d0, _⟩ := facts1 (HK.out.below HB1.out HK.out.lt)
             obtain ⟨e0, _⟩ := facts1 (HV.out.below HB1.out HV.out.lt)
             obtain ⟨c0, _⟩ := facts1 (HB.out.below HB1.out HB.out.lt)
             obtain ⟨gs, hgs⟩ : ∃ g, w1.heap.size = g := ⟨_, rfl⟩
             obtain ⟨w2, hw2⟩ : ∃ x, w1.alloc (.cells #[.string (tstr k), .string (tstr v)] 175) = x := ⟨_, rfl⟩
             have hb2 : Below w1.heap.size w1 w2 := by rw [← hw2]; exact (Below.refl _ _).alloc (Nat.le_refl _) _
             have HS2 : Hid (Src w2 (some ⟨gs, 0, none⟩) (prsCells [⟨k, v⟩])) := by rw [← hw2, ← hgs]; exact src_pair w1 ⟨k, v⟩
             have R2 := Lib.hid (R1.out.below hb2)
             have HB2 := Lib.hid (HB1.out.trans (hb2.mono HB1.out.size))
             clear r1 m1 hb2)
          | (at_builtin
             refine wpList_rw Tryz.eltPair rfl (.tmp 17) (.tmp 21) rfl rfl R2.out (some ⟨gs, 0, none⟩) 1 1 (prsCells [⟨k, v⟩]) rfl rfl HS2.out (prsCells_one _) (by have := HNB.out; omega) HB2.out.size ?_
             intro v3 w3 r3 m3
             have R3 := Lib.hid r3
             obtain ⟨Av3, cv3, rfl, _, _, _⟩ := r3.tsrc
             have HB3 := Lib.hid (Mv.since HB2.out R2.out m3)
             obtain ⟨c0, _⟩ := facts1 (HB.out.below HB3.out HB.out.lt)
             clear r3 m3)
          | (at_builtin
             refine wpList_rw Tryz.eltPair rfl (.tmp 26) (.tmp 32) rfl rfl R3.out _ (n - j) _ (prsCells (ps.drop j)) rfl (by rw [prsCells_len, List.length_drop, HN.out]) (HTD.out _ b0 o0 HB3.out rfl) (prsCells_one _) (by have := HNB.out; omega) HB3.out.size ?_
             intro v4 w4 r4 m4
             have R4 := Lib.hid r4
             have HB4 := Lib.hid (Mv.since HB3.out R3.out m4)
             clear r4 m4)
          | fail)
        go_ret
        obtain ⟨A4, cap4, e4, _, h4, _⟩ := R4.out.tsrc
        rw [← prsCells_append, ← prsCells_append] at h4
        have hlen : (ps.take j ++ [(⟨k, v⟩ : Pl.Pr)] ++ ps.drop j).length = j + 1 + (n - j) := by rw [List.length_append, List.length_append, List.length_take, List.length_drop, HN.out, Nat.min_eq_left (by have := HNB.out; omega)]; rfl
        rw [hlen]
        exact ⟨⟨A4, cap4, by show Ending.returned v4 = _; rw [e4], h4⟩, HB4.out⟩
end Go.Proofs.YtljmklohgpaopaaGreatDoor

namespace Go.Proofs.YtljmklohgpaopaaGreatDoor
open Go.RowKit
set_option linter.unusedSectionVars false
variable [Inhabited LoT]

set_option maxHeartbeats 1000000 in
/-- Something is done unless the tree is bad; then it is bad just if the disk failed. -/
theorem tdo_any (gT : Nat) (m : Tm) (K : FuncId) (caps : Array Value) (w : World) (h : TmAt w gT m) (hb : m.bad = false) (Q : Nat → World → Prop) (hK : ∀ W, (callFunc K caps).run Tryz.prog W = .ok (.enter K caps) W)
    (hQ : ∀ k w', Q k w' → ∃ c0 c1 c2 c3 c4 c5 c6, Blk w' gT 158 [c0, c1, c2, c3, c4, c5, c6, .bool false])
    (hc : Calls Tryz.prog K caps (w.alloc (.cells #[.nilIface] 83)) fun e w' => Blk w' w.heap.size 83 [.nilIface] ∧ ∃ k, TEndK k e ∧ Q k w') :
    Calls Tryz.prog 89 #[.pointer (some ⟨gT, 0, none⟩), .func (.func K) #[] caps] w fun e w'' => ∃ k w', Q k w' ∧ e = .returned (errK k) ∧ Only (fun b => b = w.heap.size ∨ b = gT) w' w'' ∧
      ∀ c0 c1 c2 c3 c4 c5 c6 c7, Blk w' gT 158 [c0, c1, c2, c3, c4, c5, c6, c7] → Blk w'' gT 158 [c0, c1, c2, c3, c4, c5, c6, .bool (k == 3)] := by
  obtain ⟨a0, a1, a2, a3, a4, a5, a6, a7, af⟩ := facts8 h
  rw [hb] at a7
  have hlt := Lib.hid h.lt
  have HG := Lib.hid (tguardedK K caps w Q hK hc)
  have HQ := Lib.hid hQ
  clear h hb hK hQ hc
  go_enter Tryz.func89, Tryz.ntmps89
  go_wp2_with fail
  refine HG.out.mono ?_
  rintro e w2 ⟨k, w1, hk, hq, hon, rfl⟩
  obtain ⟨c0, c1, c2, c3, c4, c5, c6, hB⟩ := HQ.out k w1 hq
  have hB2 := hon.blk hB (fun e => by have := hlt.out; omega)
  have HQ1 := Lib.hid hq
  have HO := Lib.hid hon
  have HE := Lib.hid (errK_err w2 k)
  have f7 := hB2.frozen 7
  have d7 := hB2.cell 7
  simp only [List.getElem?_cons_zero, List.getElem?_cons_succ] at d7
  have HB1 := Lib.hid hB
  have HB2 := Lib.hid hB2
  obtain ⟨ev, hev⟩ : ∃ ev, errK k = ev := ⟨_, rfl⟩
  rw [hev] at HE ⊢
  have HEV := Lib.hid hev
  obtain ⟨q, hqk⟩ : ∃ q, ((k : Int) == 3) = q := ⟨_, rfl⟩
  have HQK := Lib.hid hqk
  clear hq hon hB hB2 hk hev hqk
  go_wp2_with fail
  refine (is_any ev k ⟨#[]⟩ 3 w2 HE.out (by omega)).mono ?_
  rintro e w' ⟨rfl, rfl⟩
  rw [HQK.out]
  have hqq : (k == 3) = q := by
    rw [← HQK.out]
    by_cases h3 : k = 3
    · subst h3; rfl
    · rw [beq_eq_false_iff_ne.2 h3, beq_eq_false_iff_ne.2 (by omega)]
  have HQQ := Lib.hid hqq
  clear hqq
  cases q
  · go_wp2_with fail
    go_ret
    refine ⟨k, w1, HQ1.out, by rw [HEV.out]; rfl, HO.out.mono (fun _ _ h => .inl h), ?_⟩
    intro x0 x1 x2 x3 x4 x5 x6 x7 hx
    have hu := (hx.cell 7).symm.trans (HB1.out.cell 7)
    simp only [List.getElem?_cons_zero, List.getElem?_cons_succ, Option.some.injEq] at hu
    subst hu
    rw [HQQ.out]
    exact HO.out.blk hx (fun e => by have := hlt.out; omega)
  · go_wp2_with fail
    go_ret
    refine ⟨k, w1, HQ1.out, by rw [HEV.out]; rfl, ?_, ?_⟩
    · exact (HO.out.mono (fun _ _ h => .inl h)).setCell (p := ⟨gT, 7, none⟩) (.inl (.inr rfl)) _
    · intro x0 x1 x2 x3 x4 x5 x6 x7 hx
      rw [HQQ.out]
      exact (HO.out.blk hx (fun e => by have := hlt.out; omega)).set_ 7 (.bool true)

theorem TFt.since {F : Nat → Prop} {gT : Nat} {w a b : World} (h : TFt gT w a) (k : Only F a b) (hF : ∀ x, x < w.heap.size → F x → x = gT ∧ LO ≤ x) (hT : Typ w gT 158) : TFt gT w b := by
  obtain ⟨F', h1, h2⟩ := h.only
  refine ⟨⟨fun x => F' x ∨ (x < w.heap.size ∧ F x), (h1.mono (fun x _ hx => .inl hx)).trans k (fun x hx hf => .inr ⟨hx, hf⟩), ?_⟩, fun p s hp hs hc => k.cell (h.ev p s hp hs hc) (fun hf => hp (hF _ (World.block_lt_of_cell? _ _ hc) hf).1), h.low.trans k (fun x hx hf => (hF x hx hf).2), fun r x v hr => by
    obtain ⟨v', e1, e2⟩ := h.refs r x v hr
    refine ⟨v', k.blk e1 (fun hf => ?_), e2⟩
    have e3 := (hF r hr.lt hf).1
    subst e3
    exact absurd (hr.typ.uniq hT) (by decide)⟩
  rintro x (hx | ⟨hx, hf⟩)
  · exact h2 x hx
  · exact ⟨_, by simp, (hF x hx hf).1 ▸ hT⟩
/-- What a change that was guarded leaves. -/
def ChQ (E : TEnv) (n : Nat) (rd : Int) (G : Gh) (x : Pl.Any) (none_ : Prop) (b : Bool) (w : World) (k : Nat) (w' : World) : Prop :=
  TFt E.gT w w' ∧ ((k = 0 ∧ ∃ G' rd' r' fr, TW (E.to r') w' rd' G' ∧ Ext G G' ∧ G' r' = some x ∧ FrN w' x.1 x.2 r' fr ∧ fr + E.m.pages + 2 ≤ E.m.n ∧ RdK n rd rd' ∧ ¬ none_)
  ∨ (k = 5 ∧ ∃ G' rd' fr, TW E w' rd' G' ∧ Ext G G' ∧ RdK n rd rd' ∧ fr ≤ Pl.pgs x.1 x.2 ∧ E.m.n < fr + E.m.pages + 2 ∧ ¬ none_)
  ∨ (k = 3 ∧ E.d.life = 0 ∧ (∃ rd', DiskAt w' E.m.g E.vD E.d rd') ∧ TmAt w' E.gT { E.m with bad := b })
  ∨ (k = 8 ∧ none_ ∧ ∃ G' rd', TW E w' rd' G' ∧ Ext G G' ∧ RdK n rd rd'))
theorem Tm.eta {m : Tm} (h : m.bad = false) : { m with bad := false } = m := by obtain ⟨a, b, c, d, e, f, g, i⟩ := m; dsimp only at h; subst h; rfl
theorem ChPost.q {E : TEnv} {n : Nat} {rd : Int} {G : Gh} {x : Pl.Any} {none_ : Prop} {w : World} {e : Ending} {w' : World} (hb : E.m.bad = false) (h : ChPost E n rd G x none_ w e w') : ∃ k, TEndK k e ∧ ChQ E n rd G x none_ false w k w' := by
  rcases h with ⟨G', rd', r', fr, rfl, h1, h2, h3, h4, h5, h6, h7⟩ | ⟨G', rd', fr, rfl, h1, h2, h3, h4, h5, h6⟩ | ⟨h1, rfl, h2, h3, h4⟩ | ⟨h0, rfl, G', rd', h1, h2, h3, h4⟩
  · exact ⟨0, .inl ⟨rfl, rfl⟩, h6, .inl ⟨rfl, G', rd', r', fr, h1, h2, h3, h4, h5, h7⟩⟩
  · exact ⟨5, .inr ⟨by omega, by omega, rfl⟩, h3, .inr (.inl ⟨rfl, G', rd', fr, h1, h2, h4, h5, h6⟩)⟩
  · exact ⟨3, .inr ⟨by omega, by omega, rfl⟩, h3, .inr (.inr (.inl ⟨rfl, h1, h2, by rw [Tm.eta hb]; exact h4⟩))⟩
  · exact ⟨8, .inr ⟨by omega, by omega, rfl⟩, h3, .inr (.inr (.inr ⟨rfl, h0, G', rd', h1, h2, h4⟩))⟩
theorem ChQ.tree {E : TEnv} {n : Nat} {rd : Int} {G : Gh} {x : Pl.Any} {none_ : Prop} {w : World} {k : Nat} {w' : World} (hb : E.m.bad = false) (h : ChQ E n rd G x none_ false w k w') : ∃ m : Tm, m.bad = false ∧ TmAt w' E.gT m := by
  obtain ⟨_, ⟨_, G', rd', r', fr, h1, _⟩ | ⟨_, G', rd', fr, h1, _⟩ | ⟨_, _, _, h1⟩ | ⟨_, _, G', rd', h1, _⟩⟩ := h
  · exact ⟨(E.to r').m, hb, h1.tree⟩
  · exact ⟨_, hb, h1.tree⟩
  · exact ⟨_, rfl, h1⟩
  · exact ⟨_, hb, h1.tree⟩
theorem TW.do {E : TEnv} {F : Nat → Prop} {w w' : World} {rd : Int} {G : Gh} (h : TW E w rd G) (ho : Only F w w') (hk : Kinds F w [83, 158]) (ht : TmAt w' E.gT E.m) : TW E w' rd G :=
  ⟨ht, h.disk.only_ ho hk (by decide) (by decide), h.inv.only ho hk (by decide) (by decide), h.room, h.low⟩
/-- Behind do. -/
theorem ChQ.done {E : TEnv} {n : Nat} {rd : Int} {G : Gh} {x : Pl.Any} {none_ : Prop} {w : World} {k : Nat} {w' w'' : World} (hT : TmAt w E.gT E.m) (hlo : LO ≤ E.gT) (hb : E.m.bad = false) (he : Blk w' w.heap.size 83 [.nilIface]) (h : ChQ E n rd G x none_ false (w.alloc (.cells #[.nilIface] 83)) k w')
    (ho : Only (fun b => b = w.heap.size ∨ b = E.gT) w' w'') (ht : ∀ c0 c1 c2 c3 c4 c5 c6 c7, Blk w' E.gT 158 [c0, c1, c2, c3, c4, c5, c6, c7] → Blk w'' E.gT 158 [c0, c1, c2, c3, c4, c5, c6, .bool (k == 3)]) : ChQ E n rd G x none_ true w k w'' := by
  obtain ⟨m, hm, hmt⟩ := h.tree hb
  have hk : Kinds (fun b => b = w.heap.size ∨ b = E.gT) w' [83, 158] := by
    rintro b (rfl | rfl)
    · exact ⟨_, by simp, he.typ⟩
    · exact ⟨_, by simp, hmt.typ⟩
  have hal : Below w.heap.size w (w.alloc (.cells #[.nilIface] 83)) := (Below.refl _ _).alloc (Nat.le_refl _) _
  have htt : ∀ m' : Tm, TmAt w' E.gT m' → TmAt w'' E.gT { m' with bad := (k == 3) } := fun m' hm' => ht _ _ _ _ _ _ _ _ hm'
  obtain ⟨h0, h1⟩ := h
  refine ⟨((TFr.of_below hal).tft.trans h0).since ho (fun x hx hf => by rcases hf with e | e; exact absurd e (by omega); exact ⟨e, by rw [e]; exact hlo⟩) hT.typ, ?_⟩
  rcases h1 with ⟨rfl, G', rd', r', fr, h1, h2, h3, h4, h5, h6⟩ | ⟨rfl, G', rd', fr, h1, h2⟩ | ⟨rfl, h1, ⟨rd', h2⟩, h3⟩ | ⟨rfl, h0', G', rd', h1, h2⟩
  · refine .inl ⟨rfl, G', rd', r', fr, h1.do ho hk ?_, h2, h3, h4.only ho hk (by decide) (by decide), h5, h6⟩
    have := htt _ h1.tree
    rwa [show ((0 : Nat) == 3) = false from rfl, Tm.eta (m := (E.to r').m) hb] at this
  · refine .inr (.inl ⟨rfl, G', rd', fr, h1.do ho hk ?_, h2⟩)
    have := htt _ h1.tree
    rwa [show ((5 : Nat) == 3) = false from rfl, Tm.eta hb] at this
  · exact .inr (.inr (.inl ⟨rfl, h1, ⟨rd', h2.only_ ho hk (by decide) (by decide)⟩, htt { E.m with bad := false } h3⟩))
  · refine .inr (.inr (.inr ⟨rfl, h0', G', rd', h1.do ho hk ?_, h2⟩))
    have := htt _ h1.tree
    rwa [show ((8 : Nat) == 3) = false from rfl, Tm.eta hb] at this

set_option maxRecDepth 100000 in
set_option maxHeartbeats 4000000 in
theorem put1_any (E : TEnv) (gt gk gv : Nat) (key v : Pl.Key) (hkf : Pl.KeyFit key) (hvf : v.length ≤ 100) (hn : E.m.n ≤ 4096) (hpg : E.m.pages ≤ 4096) (h : Nat) (t : Pl.Tr h) (w : World) (rd : Int) (G : Gh) (hw : TW E w rd G) (hG : G E.m.root = some ⟨h, t⟩) (hok : Pl.RootOk ⟨h, t⟩) (hh : h ≤ 62)
    (hpgs : Pl.pgs (Pl.newRoot (Pl.putL key v) key ⟨h, t⟩).1 (Pl.newRoot (Pl.putL key v) key ⟨h, t⟩).2 ≤ 50000) (hev : EvAt w)
    (ht : Blk w gt 45 [.pointer (some ⟨E.gT, 0, none⟩)]) (hk : Blk w gk 9 [.string (tstr key)]) (hv : Blk w gv 9 [.string (tstr v)]) :
    Calls Tryz.prog 90 #[.pointer (some ⟨gt, 0, none⟩), .pointer (some ⟨gk, 0, none⟩), .pointer (some ⟨gv, 0, none⟩)] w (ChPost E (2 * (h + 1)) rd G (Pl.newRoot (Pl.putL key v) key ⟨h, t⟩) False w) := by
  have hmf : ∀ (fn : Fn) (first cap : Array Value) (w : World), (Instr.makeFunc fn first cap).run Tryz.prog w = .ok (.func fn first cap) w := fun _ _ _ _ => rfl
  have HC := Lib.hid (change_any E 92 #[.pointer (some ⟨gk, 0, none⟩), .pointer (some ⟨gv, 0, none⟩)] (Pl.putL key v) (fun _ => False) key enters_put11 (fun ps hp => Pl.putL_fit hkf hvf hp) hn hpg h t w rd G hw hG hok hh hpgs
    (fun W b ps hW hl hr => (put11_any gk gv b key v ps W (hW.blk hk (by decide) (by decide)) (hW.blk hv (by decide) (by decide)) hl (by have := len_le_lsz ps; have := hr.1; omega)).mono (fun e w' hq => ⟨.inl (by obtain ⟨A, cap, e1, e2⟩ := hq.1; exact ⟨A, cap, e1, e2, fun h => h⟩), hq.2⟩)) hev)
  have c0 : w.cell? ⟨gt, 0, none⟩ = some (.pointer (some ⟨E.gT, 0, none⟩)) := ht.cell 0
  have c1 : w.cell? ⟨gk, 0, none⟩ = some (.string (tstr key)) := hk.cell 0
  clear hw hG hok hpgs hev ht hk hv
  go_enter Tryz.func90, Tryz.ntmps90
  go_wp2_with fail
  refine HC.out.mono ?_
  rintro e w1 h1
  have H1 := Lib.hid h1
  rcases h1 with ⟨G', rd', r', fr, rfl, _⟩ | ⟨G', rd', fr, rfl, _⟩ | ⟨_, rfl, _⟩ | ⟨_, rfl, _⟩
  · go_wp2_with fail
    go_end0
    exact H1.out
  all_goals
    have H2 := H1
    clear H1
    unfold tdied
    go_wp2_with fail
    try exact ⟨rfl, H2.out⟩
end Go.Proofs.YtljmklohgpaopaaGreatDoor

namespace Go.Proofs.YtljmklohgpaopaaGreatDoor
open Go.RowKit
set_option linter.unusedSectionVars false
variable [Inhabited LoT]

theorem enters_del11 (args : Array Value) (W : World) : (callFunc 145 args).run Tryz.prog W = .ok (.enter 145 args) W := by simp [go_sem]
set_option maxRecDepth 100000 in
set_option maxHeartbeats 4000000 in
theorem del11_any (b : Nat) (k : Pl.Key) (ps : List Pl.Pr) (w : World) (hl : LeafAt w b ps) (hn : ps.length ≤ 500) :
    Calls Tryz.prog 145 #[.pointer (some ⟨b, 0, none⟩), .int .i64 (Pl.placeOf ps k : Nat), .bool (Pl.hasL k ps)] w fun e w' =>
      ((∃ A cap, e = .returned (.slice A (Pl.delL k ps).length cap) ∧ TSrc w' A (prsCells (Pl.delL k ps)) 175 ∧ ¬ Pl.hasL k ps = false) ∨ (Pl.hasL k ps = false ∧ e = tdied 8)) ∧ Below w.heap.size w w' := by
  obtain ⟨A, ca, hb, hca, ht⟩ := hl
  cases hh : Pl.hasL k ps with
  | false =>
    clear hb hca ht hn
    go_enter Tryz.func145, Tryz.ntmps145
    go_wp2_with fail
    refine (tfail_any 8 _).mono ?_
    rintro e w' ⟨rfl, rfl⟩
    unfold tdied
    go_wp2_with fail
    exact ⟨rfl, .inr ⟨by first | trivial | rfl, rfl⟩, Below.refl _ _⟩
  | true =>
    have hlt := Pl.hasL_lt hh
    have hpu : Pl.delL k ps = ps.take (Pl.placeOf ps k) ++ ps.drop (Pl.placeOf ps k + 1) := rfl
    rw [hpu]
    obtain ⟨n, hnl⟩ : ∃ n, ps.length = n := ⟨_, rfl⟩
    obtain ⟨i, hi⟩ : ∃ n, Pl.placeOf ps k = n := ⟨_, rfl⟩
    rw [hi] at hlt ⊢
    rw [hnl] at hlt hn hca
    have HB := Lib.hid (show Blk w b 164 [.slice A n ca] by rw [← hnl]; exact hb)
    have HT := Lib.hid ht
    have HN := Lib.hid hnl
    have HTK : Hid (∀ W, Below w.heap.size w W → Src W A (prsCells (ps.take i))) := fun W hW => by
      have := ((HT.out.below hW).take (i * 2)).1
      rw [prsCells_take ps i (by omega)] at this
      exact this
    have HTD : Hid (∀ (W : World) (b0 o0 : Nat), Below w.heap.size w W → A = some ⟨b0, o0, none⟩ → Src W (some ⟨b0, o0 + (i + 1) * 2, none⟩) (prsCells (ps.drop (i + 1)))) := fun W b0 o0 hW hA => by
      have h1 := HT.out.below hW
      rw [hA] at h1
      have := (h1.drop ((i + 1) * 2)).1
      rw [prsCells_drop ps (i + 1) (by omega)] at this
      exact this
    have HNB : Hid (i < n ∧ n ≤ 500 ∧ n ≤ ca) := ⟨hlt, hn, hca⟩
    obtain ⟨c0, _⟩ := facts1 HB.out
    have q1 : (i : Int) ≤ (n : Int) := by omega
    have q2 : (i : Int) ≤ (ca : Int) := by omega
    have q3 : (n : Int) ≤ (ca : Int) := by omega
    have q5 : (i : Int) + 1 ≤ (n : Int) := by omega
    have q6 : (i : Int) + 1 ≤ (ca : Int) := by omega
    obtain ⟨b0, o0, rfl⟩ := HT.out.at2 (by rw [HN.out]; omega)
    clear hb ht hnl hi hpu hh
    by_cases hcap : ca = i + 1
    · have HNL : Hid (∀ (W : World) (A : Option Addr), Src W A (prsCells (ps.drop (i + 1)))) := fun W A => .inl (by
        rw [List.drop_eq_nil_iff.2 (by rw [HN.out]; omega)]; rfl)
      have q7 : (n : Int) ≤ (i : Int) + 1 := by omega
      subst hcap
      go_enter Tryz.func145, Tryz.ntmps145
      go_wp2_with (first
        | (at_builtin
           refine wpList_rw Tryz.eltPair rfl (.const (.slice none 0 0)) (.tmp 17) rfl rfl (Rw.nil w w.heap.size) _ i _ (prsCells (ps.take i)) rfl (by rw [prsCells_len, List.length_take, HN.out, Nat.min_eq_left (by have := HNB.out; omega)]) (HTK.out w (Below.refl _ _)) (prsCells_one _) (by have := HNB.out; omega) (Nat.le_refl _) ?_
           intro v1 w1 r1 m1
           rw [Nat.zero_add, List.nil_append] at r1
           have R1 := Lib.hid r1
           have HB1 := Lib.hid (Mv.fresh m1)
           obtain ⟨Av1, cv1, rfl, _, _, _⟩ := r1.tsrc
           obtain ⟨c0, _⟩ := facts1 (HB.out.below HB1.out HB.out.lt)
           clear r1 m1)
        | (at_builtin
           refine wpList_rw Tryz.eltPair rfl (.tmp 19) (.tmp 26) rfl rfl R1.out _ 0 _ (prsCells (ps.drop (i + 1))) rfl (by rw [prsCells_len, List.length_drop, HN.out]; have := HNB.out; omega) (HNL.out _ _) (prsCells_one _) (by have := HNB.out; omega) HB1.out.size ?_
           intro v4 w4 r4 m4
           have R4 := Lib.hid r4
           have HB4 := Lib.hid (Mv.since HB1.out R1.out m4)
           clear r4 m4)
        | fail)
      go_ret
      obtain ⟨A4, cap4, e4, _, h4, _⟩ := R4.out.tsrc
      rw [← prsCells_append] at h4
      have hlen : (ps.take i ++ ps.drop (i + 1)).length = i + 0 := by rw [List.length_append, List.length_take, List.length_drop, HN.out, Nat.min_eq_left (by have := HNB.out; omega)]; have := HNB.out; omega
      rw [hlen]
      exact ⟨.inl ⟨A4, cap4, by show Ending.returned v4 = _; rw [e4], h4, fun h => by cases h⟩, HB4.out⟩
    · go_enter Tryz.func145, Tryz.ntmps145
      go_wp2_with (first
        | (at_builtin
           refine wpList_rw Tryz.eltPair rfl (.const (.slice none 0 0)) (.tmp 17) rfl rfl (Rw.nil w w.heap.size) _ i _ (prsCells (ps.take i)) rfl (by rw [prsCells_len, List.length_take, HN.out, Nat.min_eq_left (by have := HNB.out; omega)]) (HTK.out w (Below.refl _ _)) (prsCells_one _) (by have := HNB.out; omega) (Nat.le_refl _) ?_
           intro v1 w1 r1 m1
           rw [Nat.zero_add, List.nil_append] at r1
           have R1 := Lib.hid r1
           have HB1 := Lib.hid (Mv.fresh m1)
           obtain ⟨Av1, cv1, rfl, _, _, _⟩ := r1.tsrc
           obtain ⟨c0, _⟩ := facts1 (HB.out.below HB1.out HB.out.lt)
           clear r1 m1)
        | (at_builtin
           refine wpList_rw Tryz.eltPair rfl (.tmp 19) (.tmp 26) rfl rfl R1.out _ (n - (i + 1)) _ (prsCells (ps.drop (i + 1))) rfl (by rw [prsCells_len, List.length_drop, HN.out]) (HTD.out _ b0 o0 HB1.out rfl) (prsCells_one _) (by have := HNB.out; omega) HB1.out.size ?_
           intro v4 w4 r4 m4
           have R4 := Lib.hid r4
           have HB4 := Lib.hid (Mv.since HB1.out R1.out m4)
           clear r4 m4)
        | fail)
      go_ret
      obtain ⟨A4, cap4, e4, _, h4, _⟩ := R4.out.tsrc
      rw [← prsCells_append] at h4
      have hlen : (ps.take i ++ ps.drop (i + 1)).length = i + (n - (i + 1)) := by rw [List.length_append, List.length_take, List.length_drop, HN.out, Nat.min_eq_left (by have := HNB.out; omega)]
      rw [hlen]
      exact ⟨.inl ⟨A4, cap4, by show Ending.returned v4 = _; rw [e4], h4, fun h => by cases h⟩, HB4.out⟩
set_option maxRecDepth 100000 in
set_option maxHeartbeats 4000000 in
theorem del1_any (E : TEnv) (gt gk : Nat) (key : Pl.Key) (hn : E.m.n ≤ 4096) (hpg : E.m.pages ≤ 4096) (h : Nat) (t : Pl.Tr h) (w : World) (rd : Int) (G : Gh) (hw : TW E w rd G) (hG : G E.m.root = some ⟨h, t⟩) (hok : Pl.RootOk ⟨h, t⟩) (hh : h ≤ 62)
    (hpgs : Pl.pgs (Pl.newRoot (Pl.delL key) key ⟨h, t⟩).1 (Pl.newRoot (Pl.delL key) key ⟨h, t⟩).2 ≤ 50000) (hev : EvAt w)
    (ht : Blk w gt 45 [.pointer (some ⟨E.gT, 0, none⟩)]) (hk : Blk w gk 9 [.string (tstr key)]) :
    Calls Tryz.prog 144 #[.pointer (some ⟨gt, 0, none⟩), .pointer (some ⟨gk, 0, none⟩)] w (ChPost E (2 * (h + 1)) rd G (Pl.newRoot (Pl.delL key) key ⟨h, t⟩) (Pl.hasL key (Pl.leafOf h t key) = false) w) := by
  have HC := Lib.hid (change_any E 145 #[] (Pl.delL key) (fun ps => Pl.hasL key ps = false) key enters_del11 (fun ps hp => Pl.delL_fit hp) hn hpg h t w rd G hw hG hok hh hpgs
    (fun W b ps hW hl hr => del11_any b key ps W hl (by have := len_le_lsz ps; have := hr.1; omega)) hev)
  have c0 : w.cell? ⟨gt, 0, none⟩ = some (.pointer (some ⟨E.gT, 0, none⟩)) := ht.cell 0
  have c1 : w.cell? ⟨gk, 0, none⟩ = some (.string (tstr key)) := hk.cell 0
  clear hw hG hok hpgs hev ht hk
  go_enter Tryz.func144, Tryz.ntmps144
  go_wp2_with fail
  refine HC.out.mono ?_
  rintro e w1 h1
  have H1 := Lib.hid h1
  rcases h1 with ⟨G', rd', r', fr, rfl, _⟩ | ⟨G', rd', fr, rfl, _⟩ | ⟨_, rfl, _⟩ | ⟨_, rfl, _⟩
  · go_wp2_with fail
    go_end0
    exact H1.out
  all_goals
    have H2 := H1
    clear H1
    unfold tdied
    go_wp2_with fail
    try exact ⟨rfl, H2.out⟩
end Go.Proofs.YtljmklohgpaopaaGreatDoor
