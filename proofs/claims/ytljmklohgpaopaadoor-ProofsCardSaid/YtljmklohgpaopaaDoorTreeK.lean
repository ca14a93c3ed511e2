/- The walk of the reference's Climb. -/
import Derived.Test.YtljmklohgpaopaaDoorTreeP
namespace Go.Proofs.YtljmklohgpaopaaDoor
open Go.RowKit

def tstr (l : List UInt8) : ByteArray := ⟨l.toArray⟩
theorem tstr_size (l : List UInt8) : (tstr l).size = l.length := by show l.toArray.size = _; simp
theorem tstr_list (l : List UInt8) : (tstr l).data.toList = l := rfl
theorem tstr_append (a b : List UInt8) : tstr a ++ tstr b = tstr (a ++ b) := by
  have : (tstr a ++ tstr b).data = (tstr (a ++ b)).data := by
    apply Array.toList_inj.1
    simp [tstr_list]
  cases h1 : tstr a ++ tstr b; cases h2 : tstr (a ++ b); rw [h1, h2] at this; simpa using this
theorem run_cat (w : World) (a b : List UInt8) (h : a.length + b.length ≤ 9223372036854775807) : (Op.stringOp .add (tstr a) (tstr b)).run Tryd.prog w = .ok (.string (tstr (a ++ b))) w := by
  rw [run_string_add_sum w _ _ (by rw [tstr_size, tstr_size]; exact h), tstr_append]
theorem tstr_take (l : List UInt8) (k : Nat) : (tstr l).extract 0 k = tstr (l.take k) := by
  have : ((tstr l).extract 0 k).data = (tstr (l.take k)).data := by
    apply Array.toList_inj.1
    simp [tstr_list, tstr]
  cases h1 : (tstr l).extract 0 k; cases h2 : tstr (l.take k); rw [h1, h2] at this; simpa using this
theorem tstr_drop (l : List UInt8) (k : Nat) : (tstr l).extract k l.length = tstr (l.drop k) := by
  have : ((tstr l).extract k l.length).data = (tstr (l.drop k)).data := by
    apply Array.toList_inj.1
    simp [tstr_list, tstr]
    rw [List.take_of_length_le (by simp)]
  cases h1 : (tstr l).extract k l.length; cases h2 : tstr (l.drop k); rw [h1, h2] at this; simpa using this
theorem run_str_take (w : World) (l : List UInt8) (k : Int) (n : Nat) (hk : k = n) (hn : n ≤ l.length) :
    (Instr.slice 9 (.string (tstr l)) none (some (.int .i64 k)) none).run Tryd.prog w = .ok (.string (tstr (l.take n))) w := by
  subst hk
  rw [run_slice_string_to_if w 9 (tstr l) .i64 n Tryd.underlying9, if_pos ⟨by omega, by rw [tstr_size]; omega⟩, Int.toNat_natCast, tstr_take]
theorem run_str_drop (w : World) (l : List UInt8) (k : Int) (n : Nat) (hk : k = n) (hn : n ≤ l.length) :
    (Instr.slice 9 (.string (tstr l)) (some (.int .i64 k)) none none).run Tryd.prog w = .ok (.string (tstr (l.drop n))) w := by
  subst hk
  rw [run_slice_string_from_if w 9 (tstr l) .i64 n Tryd.underlying9, if_pos ⟨by omega, by rw [tstr_size]; omega⟩, Int.toNat_natCast, tstr_size, tstr_drop]

theorem refClimb_single (leaf s : ByteArray) (i : Nat) (w : World) (hs : leaf.size ≤ 140737488351232) :
    Calls Tryd.prog 34 #[.string leaf, .int .i64 i, .int .i64 1, .string s] w fun e w' => e = .returned (.string (hstr (Pl.sumN (0 :: leaf.data.toList)))) ∧ Below w.heap.size w w' := by
  have hs2 : 1 + leaf.size ≤ 9223372036854775807 := by omega
  go_enter Tryd.func34, Tryd.ntmps34
  go_wp2_with fail
  refine (refSum_of _ (0 :: leaf.data.toList) _ (by simp) (by simp; omega)).mono ?_
  rintro e w1 ⟨rfl, hb1⟩
  go_wp2_with fail
  go_ret
  exact ⟨rfl, hb1⟩

theorem split_last (ps : List Nat) (h : 0 < ps.length) : ∃ qs x, ps = qs ++ [x] := ⟨ps.dropLast, ps.getLast (List.ne_nil_of_length_pos h), (List.dropLast_concat_getLast _).symm⟩

set_option maxHeartbeats 2000000 in
theorem refClimb_step (leaf : ByteArray) (i m : Nat) (qs : List Nat) (x : Nat) (w : World) (hs : leaf.size ≤ 140737488351232) (hi : i < m) (hm : 2 ≤ m) (hm2 : m ≤ 4096) (hp : (qs ++ [x]).length = Pl.depth i m)
    (ih : ∀ (i' m' : Nat) (w : World), m' < m → i' < m' → qs.length = Pl.depth i' m' →
      Calls Tryd.prog 34 #[.string leaf, .int .i64 i', .int .i64 m', .string (pstr qs)] w fun e w' => e = .returned (.string (hstr (Pl.climb leaf.data.toList i' m' qs))) ∧ Below w.heap.size w w') :
    Calls Tryd.prog 34 #[.string leaf, .int .i64 i, .int .i64 m, .string (pstr (qs ++ [x]))] w fun e w' => e = .returned (.string (hstr (Pl.climb leaf.data.toList i m (qs ++ [x])))) ∧ Below w.heap.size w w' := by
  have hqq := Pl.depth_lt i m hi
  rw [← hp, List.length_append] at hqq
  simp only [List.length_cons, List.length_nil] at hqq
  obtain ⟨k, hk⟩ : ∃ k, Pl.half m = k := ⟨_, rfl⟩
  have hk1 := Pl.half_pos m
  have hk2 := Pl.half_lt hm
  rw [hk] at hk1 hk2
  have HK := Lib.hid hk
  have hsz : (pstr (qs ++ [x])).size = 4 * qs.length + 4 := by rw [pstr_size]; simp; omega
  obtain ⟨s, hse⟩ : ∃ s, pstr (qs ++ [x]) = s := ⟨_, rfl⟩
  have hlist : Pl.ptext (qs ++ [x]) = Pl.ptext qs ++ Pl.be 4 x := by rw [Pl.ptext_append, Pl.ptext_one]
  have hlq := Pl.ptext_length qs
  obtain ⟨q, hq⟩ : ∃ q, 4 * qs.length = q := ⟨_, rfl⟩
  have hs1 : ∀ w, (Instr.slice 9 (.string s) none (some (.int .i64 (q : Int))) none).run Tryd.prog w = .ok (.string (pstr qs)) w := by
    intro w
    have := run_str_take w (Pl.ptext (qs ++ [x])) q q rfl (by rw [hlist, List.length_append]; omega)
    rw [show tstr (Pl.ptext (qs ++ [x])) = s from hse, hlist, List.take_left' (by omega)] at this
    exact this
  have hs2 : ∀ w, (Instr.slice 9 (.string s) (some (.int .i64 (q : Int))) none none).run Tryd.prog w = .ok (.string (hstr x)) w := by
    intro w
    have := run_str_drop w (Pl.ptext (qs ++ [x])) q q rfl (by rw [hlist, List.length_append]; omega)
    rw [show tstr (Pl.ptext (qs ++ [x])) = s from hse, hlist, List.drop_left' (by omega)] at this
    exact this
  rw [hse] at hsz ⊢
  have w0 : IntKind.i64.wrap ((s.size : Int) - 4) = (q : Int) := by rw [IntWalk.i64_in _ (by omega)]; omega
  clear hq hsz
  have q1 : ((m : Int) == 1) = false := beq_eq_false_iff_ne.2 (by omega)
  clear hlist hlq hk hse
  by_cases hik : i < k
  · have hC : Pl.climb leaf.data.toList i m (qs ++ [x]) = Pl.sumN (1 :: (Pl.be 4 (Pl.climb leaf.data.toList i k qs) ++ Pl.be 4 x)) := by
      rw [Pl.climb_lo _ _ _ _ hm (by rw [HK.out]; exact hik), HK.out]; simp
    rw [hC]
    obtain ⟨c, hc⟩ : ∃ c, Pl.climb leaf.data.toList i k qs = c := ⟨_, rfl⟩
    have hI : ∀ W, Calls Tryd.prog 34 #[.string leaf, .int .i64 i, .int .i64 k, .string (pstr qs)] W fun e w' => e = .returned (.string (hstr c)) ∧ Below W.heap.size W w' := by
      intro W
      rw [← hc]
      exact ih i k W hk2 hik (by
        rw [Pl.depth_lo _ _ hm (by rw [HK.out]; exact hik), HK.out] at hp
        simpa using hp)
    have HI := Lib.hid hI
    rw [hc]
    have hcat1 : ∀ w, (Op.stringOp .add ⟨#[1]⟩ (hstr c)).run Tryd.prog w = .ok (.string (tstr (1 :: Pl.be 4 c))) w := fun w => run_cat w [1] (Pl.be 4 c) (by simp [Pl.be_length])
    have hcat2 : ∀ w, (Op.stringOp .add (tstr (1 :: Pl.be 4 c)) (hstr x)).run Tryd.prog w = .ok (.string (tstr (1 :: (Pl.be 4 c ++ Pl.be 4 x)))) w := fun w => run_cat w (1 :: Pl.be 4 c) (Pl.be 4 x) (by simp [Pl.be_length])
    clear hI hc hC ih hp
    go_enter Tryd.func34, Tryd.ntmps34
    go_wp2_with fail
    refine (refHalf_any m _ (by omega) (by omega)).mono ?_
    rintro e w' ⟨rfl, rfl⟩
    rw [HK.out]
    go_wp2_with fail
    go_region_held3 (fun _ => True) (trivial) (first
      | (go_at_call 34; (with_reducible refine (HI.out _).mono ?_); rintro e w1 ⟨rfl, hb1'⟩; have hb1 := undrew hb1')
      | (go_at_call 29; refine (refSum_of _ (1 :: (Pl.be 4 c ++ Pl.be 4 x)) _ (tstr_list _) (by simp [Pl.be_length])).mono ?_; rintro e w2 ⟨rfl, hb2⟩))
    go_wp2_with fail
    go_ret
    exact ⟨rfl, hb1.trans (hb2.mono hb1.size)⟩
  · have hC : Pl.climb leaf.data.toList i m (qs ++ [x]) = Pl.sumN (1 :: (Pl.be 4 x ++ Pl.be 4 (Pl.climb leaf.data.toList (i - k) (m - k) qs))) := by
      rw [Pl.climb_hi _ _ _ _ hm (by rw [HK.out]; exact hik), HK.out]; simp
    rw [hC]
    obtain ⟨c, hc⟩ : ∃ c, Pl.climb leaf.data.toList (i - k) (m - k) qs = c := ⟨_, rfl⟩
    have hI : ∀ W, Calls Tryd.prog 34 #[.string leaf, .int .i64 ((i : Int) - k), .int .i64 ((m : Int) - k), .string (pstr qs)] W fun e w' => e = .returned (.string (hstr c)) ∧ Below W.heap.size W w' := by
      intro W
      have := ih (i - k) (m - k) W (by omega) (by omega) (by
        rw [Pl.depth_hi _ _ hm (by rw [HK.out]; exact hik), HK.out] at hp
        simpa using hp)
      rwa [hc, Int.ofNat_sub (by omega), Int.ofNat_sub (by omega)] at this
    have HI := Lib.hid hI
    rw [hc]
    have hcat1 : ∀ w, (Op.stringOp .add ⟨#[1]⟩ (hstr x)).run Tryd.prog w = .ok (.string (tstr (1 :: Pl.be 4 x))) w := fun w => run_cat w [1] (Pl.be 4 x) (by simp [Pl.be_length])
    have hcat2 : ∀ w, (Op.stringOp .add (tstr (1 :: Pl.be 4 x)) (hstr c)).run Tryd.prog w = .ok (.string (tstr (1 :: (Pl.be 4 x ++ Pl.be 4 c)))) w := fun w => run_cat w (1 :: Pl.be 4 x) (Pl.be 4 c) (by simp [Pl.be_length])
    have w1 : IntKind.i64.wrap ((i : Int) - k) = (i : Int) - k := IntWalk.i64_in _ (by omega)
    have w2 : IntKind.i64.wrap ((m : Int) - k) = (m : Int) - k := IntWalk.i64_in _ (by omega)
    clear hI hc hC ih hp
    go_enter Tryd.func34, Tryd.ntmps34
    go_wp2_with fail
    refine (refHalf_any m _ (by omega) (by omega)).mono ?_
    rintro e w' ⟨rfl, rfl⟩
    rw [HK.out]
    go_wp2_with fail
    go_region_held3 (fun _ => True) (trivial) (first
      | (go_at_call 34; (with_reducible refine (HI.out _).mono ?_); rintro e w1 ⟨rfl, hb1'⟩; have hb1 := undrew hb1')
      | (go_at_call 29; refine (refSum_of _ (1 :: (Pl.be 4 x ++ Pl.be 4 c)) _ (tstr_list _) (by simp [Pl.be_length])).mono ?_; rintro e w2 ⟨rfl, hb2⟩))
    go_wp2_with fail
    go_ret
    exact ⟨rfl, hb1.trans (hb2.mono hb1.size)⟩

theorem refClimb_any (leaf : ByteArray) (hs : leaf.size ≤ 140737488351232) (n : Nat) : ∀ (i m : Nat) (ps : List Nat) (w : World), m ≤ n → i < m → m ≤ 4096 → ps.length = Pl.depth i m →
    Calls Tryd.prog 34 #[.string leaf, .int .i64 i, .int .i64 m, .string (pstr ps)] w fun e w' => e = .returned (.string (hstr (Pl.climb leaf.data.toList i m ps))) ∧ Below w.heap.size w w' := by
  induction n with
  | zero => intro i m ps w hn hi; omega
  | succ n ih =>
    intro i m ps w hn hi hm hp
    by_cases h1 : m = 1
    · subst h1
      rw [Pl.climb_one _ _ _ _ (Nat.le_refl _)]
      exact refClimb_single leaf _ i w hs
    · have : 0 < ps.length := by
        rw [hp]
        by_cases hik : i < Pl.half m
        · rw [Pl.depth_lo _ _ (by omega) hik]; omega
        · rw [Pl.depth_hi _ _ (by omega) hik]; omega
      obtain ⟨qs, x, rfl⟩ := split_last ps this
      exact refClimb_step leaf i m qs x w hs hi (by omega) hm hp (fun i' m' w h1 h2 h3 => ih i' m' qs w (by omega) h2 (by omega) h3)
end Go.Proofs.YtljmklohgpaopaaDoor
