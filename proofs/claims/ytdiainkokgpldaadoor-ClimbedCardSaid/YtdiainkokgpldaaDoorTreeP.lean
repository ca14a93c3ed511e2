/- The walks of the reference's Path and Deep, and of sums.Depth. -/
import Derived.Test.YtdiainkokgpldaaDoorTreeR
namespace Go.Proofs.YtdiainkokgpldaaDoor
open Go.RowKit

def pstr (ps : List Nat) : ByteArray := ⟨(Pl.ptext ps).toArray⟩
theorem pstr_list (ps : List Nat) : (pstr ps).data.toList = Pl.ptext ps := rfl
theorem pstr_size (ps : List Nat) : (pstr ps).size = 4 * ps.length := by
  show (Pl.ptext ps).toArray.size = _
  simp [Pl.ptext_length]
theorem pstr_snoc (ps : List Nat) (n : Nat) : pstr ps ++ hstr n = pstr (ps ++ [n]) := by
  have : (pstr ps ++ hstr n).data = (pstr (ps ++ [n])).data := by
    apply Array.toList_inj.1
    simp [pstr_list, hstr_list, Pl.ptext_append, Pl.ptext_one]
  cases h1 : pstr ps ++ hstr n; cases h2 : pstr (ps ++ [n]); rw [h1, h2] at this; simpa using this

theorem refPath_single (s : ByteArray) (A : Option Addr) (cap : Nat) (i : Int) (w : World) :
    Calls Tryd.prog 16 #[.slice A 1 cap, .int .i64 i] w fun e w' => e = .returned (.string (pstr [])) ∧ Below w.heap.size w w' := by
  go_enter Tryd.func16, Tryd.ntmps16
  go_wp2_with fail
  go_ret
  exact ⟨rfl, Below.refl _ _⟩

set_option maxHeartbeats 2000000 in
theorem refPath_step (ss : List ByteArray) (b off cap i : Nat) (w : World) (hi : i < ss.length) (hn : 2 ≤ ss.length) (hs : ∀ s ∈ ss, s.size ≤ 140737488351232) (hb : Src w (some ⟨b, off, none⟩) (sv ss)) (hc : ss.length ≤ cap) (hm : ss.length ≤ 140737488351232)
    (ih : ∀ (ss' : List ByteArray) (A : Option Addr) (cap i : Nat) (w : World), i < ss'.length → ss'.length < ss.length → (∀ s ∈ ss', s ∈ ss) → Src w A (sv ss') → ss'.length ≤ cap →
      Calls Tryd.prog 16 #[.slice A ss'.length cap, .int .i64 i] w fun e w' => e = .returned (.string (pstr (Pl.path (bl ss') i))) ∧ Below w.heap.size w w') :
    Calls Tryd.prog 16 #[.slice (some ⟨b, off, none⟩) ss.length cap, .int .i64 i] w fun e w' => e = .returned (.string (pstr (Pl.path (bl ss) i))) ∧ Below w.heap.size w w' := by
  rw [Pl.path_many (bl ss) i (by rw [bl_len]; exact hn), bl_len]
  obtain ⟨k, hk⟩ : ∃ k, Pl.half ss.length = k := ⟨_, rfl⟩
  have hk1 := Pl.half_pos ss.length
  have hk2 := Pl.half_lt hn
  rw [hk] at hk1 hk2 ⊢
  have hRT : ∀ W, Src W (some ⟨b, off, none⟩) (sv (ss.take k)) → Calls Tryd.prog 14 #[.slice (some ⟨b, off, none⟩) k cap] W fun e w' => e = .returned (.string (hstr (Pl.root ((bl ss).take k)))) ∧ Below W.heap.size W w' := by
    intro W hW
    have := refRoot_any _ (ss.take k) (some ⟨b, off, none⟩) cap W (Nat.le_refl _) (fun s hx => hs s (List.mem_of_mem_take hx)) hW (by simp; omega) (by simp; omega)
    rwa [List.length_take, Nat.min_eq_left (Nat.le_of_lt hk2), bl_take] at this
  have hRD : ∀ W, Src W (some ⟨b, off + k, none⟩) (sv (ss.drop k)) → Calls Tryd.prog 14 #[.slice (some ⟨b, off + k, none⟩) (ss.length - k) (cap - k)] W fun e w' => e = .returned (.string (hstr (Pl.root ((bl ss).drop k)))) ∧ Below W.heap.size W w' := by
    intro W hW
    have := refRoot_any _ (ss.drop k) (some ⟨b, off + k, none⟩) (cap - k) W (Nat.le_refl _) (fun s hx => hs s (List.mem_of_mem_drop hx)) hW (by rw [List.length_drop]; omega) (by rw [List.length_drop]; omega)
    rwa [List.length_drop, bl_drop] at this
  have ht := Lib.hid (show Src w (some ⟨b, off, none⟩) (sv (ss.take k)) by rw [sv_take]; exact hb.take k)
  have hd := Lib.hid (show Src w (some ⟨b, off + k, none⟩) (sv (ss.drop k)) by rw [sv_drop]; exact hb.off k)
  have HRT := Lib.hid hRT
  have HRD := Lib.hid hRD
  have HK := Lib.hid hk
  have hx0 : (0 : Int) ≤ (k : Int) := by omega
  have hx1 : (k : Int) ≤ (cap : Int) := by omega
  have hx2 : (k : Int) ≤ (ss.length : Int) := by omega
  have hx3 : ¬ cap = k := by omega
  have q1 : ((ss.length : Int) == 1) = false := beq_eq_false_iff_ne.2 (by omega)
  clear hRT hRD hk
  by_cases hik : i < k
  · rw [if_pos hik]
    have hT : ∀ W, Src W (some ⟨b, off, none⟩) (sv (ss.take k)) → Calls Tryd.prog 16 #[.slice (some ⟨b, off, none⟩) k cap, .int .i64 i] W fun e w' => e = .returned (.string (pstr (Pl.path ((bl ss).take k) i))) ∧ Below W.heap.size W w' := by
      intro W hW
      have := ih (ss.take k) (some ⟨b, off, none⟩) cap i W (by simp; omega) (by simp; omega) (fun s hs => List.mem_of_mem_take hs) hW (by simp; omega)
      rwa [List.length_take, Nat.min_eq_left (Nat.le_of_lt hk2), bl_take] at this
    have HT := Lib.hid hT
    have z2 := hstr_size (Pl.root ((bl ss).drop k))
    have z1 : (pstr (Pl.path ((bl ss).take k) i)).size ≤ 562949953421312 := by
      rw [pstr_size]
      have := Pl.path_len ((bl ss).take k) i (by rw [List.length_take, bl_len]; omega)
      rw [List.length_take, bl_len] at this
      omega
    have hcat : ∀ w, (Op.stringOp .add (pstr (Pl.path ((bl ss).take k) i)) (hstr (Pl.root ((bl ss).drop k)))).run Tryd.prog w = .ok (.string (pstr (Pl.path ((bl ss).take k) i ++ [Pl.root ((bl ss).drop k)]))) w := by
      intro w; rw [run_string_add_sum w _ _ (by omega), pstr_snoc]
    clear hT ih hb hs
    go_enter Tryd.func16, Tryd.ntmps16
    go_wp2_with fail
    refine (refHalf_any ss.length _ (by omega) (by omega)).mono ?_
    rintro e w' ⟨rfl, rfl⟩
    rw [HK.out]
    go_wp2_with fail
    go_region_held3 (fun _ => True) (trivial) (first
      | (go_at_call 16; (with_reducible refine (HT.out _ ?_).mono ?_); exact ht.out; rintro e w1 ⟨rfl, hb1'⟩; have hb1 := undrew hb1')
      | (go_at_call 14; (with_reducible refine (HRD.out _ ?_).mono ?_); exact hd.out.below hb1; rintro e w2 ⟨rfl, hb2⟩))
    go_wp2_with fail
    go_ret
    exact ⟨rfl, hb1.trans (hb2.mono hb1.size)⟩
  · rw [if_neg hik]
    have hT : ∀ W, Src W (some ⟨b, off + k, none⟩) (sv (ss.drop k)) → Calls Tryd.prog 16 #[.slice (some ⟨b, off + k, none⟩) (ss.length - k) (cap - k), .int .i64 ((i : Int) - k)] W fun e w' => e = .returned (.string (pstr (Pl.path ((bl ss).drop k) (i - k)))) ∧ Below W.heap.size W w' := by
      intro W hW
      have := ih (ss.drop k) (some ⟨b, off + k, none⟩) (cap - k) (i - k) W (by rw [List.length_drop]; omega) (by rw [List.length_drop]; omega) (fun s hs => List.mem_of_mem_drop hs) hW (by rw [List.length_drop]; omega)
      rwa [List.length_drop, bl_drop, Int.ofNat_sub (by omega)] at this
    have HT := Lib.hid hT
    have z2 := hstr_size (Pl.root ((bl ss).take k))
    have z1 : (pstr (Pl.path ((bl ss).drop k) (i - k))).size ≤ 562949953421312 := by
      rw [pstr_size]
      have := Pl.path_len ((bl ss).drop k) (i - k) (by rw [List.length_drop, bl_len]; omega)
      rw [List.length_drop, bl_len] at this
      omega
    have hcat : ∀ w, (Op.stringOp .add (pstr (Pl.path ((bl ss).drop k) (i - k))) (hstr (Pl.root ((bl ss).take k)))).run Tryd.prog w = .ok (.string (pstr (Pl.path ((bl ss).drop k) (i - k) ++ [Pl.root ((bl ss).take k)]))) w := by
      intro w; rw [run_string_add_sum w _ _ (by omega), pstr_snoc]
    have w0 : IntKind.i64.wrap ((i : Int) - k) = (i : Int) - k := IntWalk.i64_in _ (by omega)
    clear hT ih hb hs
    go_enter Tryd.func16, Tryd.ntmps16
    go_wp2_with fail
    refine (refHalf_any ss.length _ (by omega) (by omega)).mono ?_
    rintro e w' ⟨rfl, rfl⟩
    rw [HK.out]
    go_wp2_with fail
    go_region_held3 (fun _ => True) (trivial) (first
      | (go_at_call 16; (with_reducible refine (HT.out _ ?_).mono ?_); exact hd.out; rintro e w1 ⟨rfl, hb1'⟩; have hb1 := undrew hb1')
      | (go_at_call 14; (with_reducible refine (HRT.out _ ?_).mono ?_); exact ht.out.below hb1; rintro e w2 ⟨rfl, hb2⟩))
    go_wp2_with fail
    go_ret
    exact ⟨rfl, hb1.trans (hb2.mono hb1.size)⟩

theorem refPath_any (n : Nat) : ∀ (ss : List ByteArray) (A : Option Addr) (cap i : Nat) (w : World), ss.length ≤ n → i < ss.length → (∀ s ∈ ss, s.size ≤ 140737488351232) → Src w A (sv ss) → ss.length ≤ cap → ss.length ≤ 140737488351232 →
    Calls Tryd.prog 16 #[.slice A ss.length cap, .int .i64 i] w fun e w' => e = .returned (.string (pstr (Pl.path (bl ss) i))) ∧ Below w.heap.size w w' := by
  induction n with
  | zero => intro ss A cap i w hn hi; omega
  | succ n ih =>
    intro ss A cap i w hn hi hs hb hc hm
    match ss, hn, hi, hs, hb, hc, hm with
    | [s], _, _, hs, hb, _, _ =>
      have : Pl.path (bl [s]) i = [] := Pl.path_one _ _
      rw [this]
      exact refPath_single s A cap i w
    | x :: y :: r, hn, hi, hs, hb, hc, hm =>
      obtain ⟨b, off, rfl⟩ := hb.addr (by simp [sv])
      exact refPath_step (x :: y :: r) b off cap i w hi (by simp) hs hb hc hm (fun ss' A cap i w h0 h1 h2 h3 h4 => ih ss' A cap i w (by omega) h0 (fun s hx => hs s (h2 s hx)) h3 h4 (by omega))

/-- What is left of the way, and what of it is counted. -/
theorem depth_round (i m d n : Nat) (hi : i < m) (h : n + Pl.depth i m = d) (hm : 2 ≤ m) :
    (i < Pl.half m → n + 1 + Pl.depth i (Pl.half m) = d) ∧ (¬ i < Pl.half m → n + 1 + Pl.depth (i - Pl.half m) (m - Pl.half m) = d) := by
  constructor
  · intro h1
    rw [Pl.depth_lo _ _ hm h1] at h; omega
  · intro h1
    rw [Pl.depth_hi _ _ hm h1] at h; omega

set_option maxHeartbeats 400000 in
theorem refDeep_any (i m : Nat) (w : World) (hi : i < m) (hm : m ≤ 4611686018427387903) :
    Calls Tryd.prog 20 #[.int .i64 i, .int .i64 m] w fun e w' => e = .returned (.int .i64 (Pl.depth i m : Nat)) ∧ w = w' := by
  obtain ⟨d, hd⟩ : ∃ d, Pl.depth i m = d := ⟨_, rfl⟩
  rw [hd]
  have hdm := Pl.depth_lt i m hi
  rw [hd] at hdm
  have HD := Lib.hid hd
  clear hd
  go_enter Tryd.func20, Tryd.ntmps20
  go_wp2
  go_loop [0, 1, 5] (fun a b c => ∃ i' m' n : Nat, a = .int .i64 (i' : Int) ∧ b = .int .i64 (m' : Int) ∧ c = .int .i64 (n : Int) ∧ i' < m' ∧ m' ≤ m ∧ n ≤ d ∧ Hid (n + Pl.depth i' m' = d)) (fun _ b _ => (intOf b).toNat)
  case atStart => exact ⟨i, m, 0, rfl, rfl, rfl, hi, by omega, by omega, by rw [Hid, HD.out]; omega⟩
  case round =>
    obtain ⟨i', m', n, rfl, rfl, rfl, h1, h2, h3, H⟩ := hrel
    by_cases hlt : 1 < m'
    · have hr := depth_round i' m' d n h1 H.out (by omega)
      have hl := Pl.half_lt (n := m') (by omega)
      have hp := Pl.half_pos m'
      obtain ⟨k, hk⟩ : ∃ k, Pl.half m' = k := ⟨_, rfl⟩
      rw [hk] at hr hl hp
      have HK := Lib.hid hk
      have HR := Lib.hid hr
      clear hk hr
      by_cases hik : i' < k
      · go_wp2_with fail
        refine (refHalf_any m' _ (by omega) (by omega)).mono ?_
        rintro e w' ⟨rfl, rfl⟩
        rw [HK.out]
        go_wp2
        go_round
        case rel =>
          have := HR.out.1 hik
          exact ⟨i', k, n + 1, rfl, rfl, by go_num, hik, by omega, by omega, this⟩
        case measure => simp [intOf]; omega
      · have w0 : IntKind.i64.wrap ((i' : Int) - k) = ((i' - k : Nat) : Int) := by rw [IntWalk.i64_in _ (by omega)]; omega
        have w1 : IntKind.i64.wrap ((m' : Int) - k) = ((m' - k : Nat) : Int) := by rw [IntWalk.i64_in _ (by omega)]; omega
        go_wp2_with fail
        refine (refHalf_any m' _ (by omega) (by omega)).mono ?_
        rintro e w' ⟨rfl, rfl⟩
        rw [HK.out]
        go_wp2
        go_round
        case rel =>
          have := HR.out.2 hik
          exact ⟨i' - k, m' - k, n + 1, by simp only [w0], by simp only [w1], by go_num, by omega, by omega, by omega, this⟩
        case measure => simp [intOf]; omega
    · have h0 : Pl.depth i' m' = 0 := Pl.depth_one _ _ (by omega)
      have hn : n = d := by have := H.out; omega
      go_wp2
      go_ret
      exact ⟨rfl, rfl⟩

set_option maxHeartbeats 400000 in
theorem depth_any (i m : Nat) (w : World) (hi : i < m) (hm : m ≤ 4611686018427387903) :
    Calls Tryd.prog 76 #[.int .i64 i, .int .i64 m] w fun e w' => e = .returned (.int .i64 (Pl.depth i m : Nat)) ∧ w = w' := by
  obtain ⟨d, hd⟩ : ∃ d, Pl.depth i m = d := ⟨_, rfl⟩
  rw [hd]
  have hdm := Pl.depth_lt i m hi
  rw [hd] at hdm
  have HD := Lib.hid hd
  clear hd
  go_enter Tryd.func76, Tryd.ntmps76
  go_wp2
  go_loop [0, 1, 5] (fun a b c => ∃ i' m' n : Nat, a = .int .i64 (i' : Int) ∧ b = .int .i64 (m' : Int) ∧ c = .int .i64 (n : Int) ∧ i' < m' ∧ m' ≤ m ∧ n ≤ d ∧ Hid (n + Pl.depth i' m' = d)) (fun _ b _ => (intOf b).toNat)
  case atStart => exact ⟨i, m, 0, rfl, rfl, rfl, hi, by omega, by omega, by rw [Hid, HD.out]; omega⟩
  case round =>
    obtain ⟨i', m', n, rfl, rfl, rfl, h1, h2, h3, H⟩ := hrel
    by_cases hlt : 1 < m'
    · have hr := depth_round i' m' d n h1 H.out (by omega)
      have hl := Pl.half_lt (n := m') (by omega)
      have hp := Pl.half_pos m'
      obtain ⟨k, hk⟩ : ∃ k, Pl.half m' = k := ⟨_, rfl⟩
      rw [hk] at hr hl hp
      have HK := Lib.hid hk
      have HR := Lib.hid hr
      clear hk hr
      by_cases hik : i' < k
      · go_wp2_with fail
        refine (half_any m' _ (by omega) (by omega)).mono ?_
        rintro e w' ⟨rfl, rfl⟩
        rw [HK.out]
        go_wp2
        go_round
        case rel =>
          have := HR.out.1 hik
          exact ⟨i', k, n + 1, rfl, rfl, by go_num, hik, by omega, by omega, this⟩
        case measure => simp [intOf]; omega
      · have w0 : IntKind.i64.wrap ((i' : Int) - k) = ((i' - k : Nat) : Int) := by rw [IntWalk.i64_in _ (by omega)]; omega
        have w1 : IntKind.i64.wrap ((m' : Int) - k) = ((m' - k : Nat) : Int) := by rw [IntWalk.i64_in _ (by omega)]; omega
        go_wp2_with fail
        refine (half_any m' _ (by omega) (by omega)).mono ?_
        rintro e w' ⟨rfl, rfl⟩
        rw [HK.out]
        go_wp2
        go_round
        case rel =>
          have := HR.out.2 hik
          exact ⟨i' - k, m' - k, n + 1, by simp only [w0], by simp only [w1], by go_num, by omega, by omega, by omega, this⟩
        case measure => simp [intOf]; omega
    · have h0 : Pl.depth i' m' = 0 := Pl.depth_one _ _ (by omega)
      have hn : n = d := by have := H.out; omega
      go_wp2
      go_ret
      exact ⟨rfl, rfl⟩
end Go.Proofs.YtdiainkokgpldaaDoor
