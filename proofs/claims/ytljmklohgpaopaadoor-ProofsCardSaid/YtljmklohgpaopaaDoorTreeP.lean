/- The walks of the reference's Path and Deep, and of sums.Depth. -/
import Derived.Test.YtljmklohgpaopaaDoorTreeR
namespace Go.Proofs.YtljmklohgpaopaaDoor
open Go.RowKit

def pstr (ps : List Nat) : ByteArray := ⟨(Pl.ptext ps).toArray⟩
theorem pstr_list (ps : List Nat) : (pstr ps).data.toList = Pl.ptext ps := rfl
theorem pstr_size (ps : List Nat) : (pstr ps).size = 4 * ps.length := by
  show (Pl.ptext ps).toArray.size = _
  simp [Pl.ptext_length]
theorem pstr_snoc (ps : List Nat) (n : Nat) : pstr ps ++ hstr n = pstr (ps ++ [n]) := by
  have : (pstr ps ++ hstr n).data = (pstr (ps ++ [n])).data := by
    apply Array.toList_inj.1
    simp [pstr_list, hstr_list, Pl.ptext_append, Pl.ptext_one]
  cases h1 : pstr ps ++ hstr n; cases h2 : pstr (ps ++ [n]); rw [h1, h2] at this; simpa using this

/-- What is left of the way, and what of it is counted. -/
theorem depth_round (i m d n : Nat) (hi : i < m) (h : n + Pl.depth i m = d) (hm : 2 ≤ m) :
    (i < Pl.half m → n + 1 + Pl.depth i (Pl.half m) = d) ∧ (¬ i < Pl.half m → n + 1 + Pl.depth (i - Pl.half m) (m - Pl.half m) = d) := by
  constructor
  · intro h1
    rw [Pl.depth_lo _ _ hm h1] at h; omega
  · intro h1
    rw [Pl.depth_hi _ _ hm h1] at h; omega

set_option maxHeartbeats 400000 in
theorem refDeep_any (i m : Nat) (w : World) (hi : i < m) (hm : m ≤ 4611686018427387903) :
    Calls Tryd.prog 33 #[.int .i64 i, .int .i64 m] w fun e w' => e = .returned (.int .i64 (Pl.depth i m : Nat)) ∧ w = w' := by
  obtain ⟨d, hd⟩ : ∃ d, Pl.depth i m = d := ⟨_, rfl⟩
  rw [hd]
  have hdm := Pl.depth_lt i m hi
  rw [hd] at hdm
  have HD := Lib.hid hd
  clear hd
  go_enter Tryd.func33, Tryd.ntmps33
  go_wp2
  go_loop [0, 1, 5] (fun a b c => ∃ i' m' n : Nat, a = .int .i64 (i' : Int) ∧ b = .int .i64 (m' : Int) ∧ c = .int .i64 (n : Int) ∧ i' < m' ∧ m' ≤ m ∧ n ≤ d ∧ Hid (n + Pl.depth i' m' = d)) (fun _ b _ => (intOf b).toNat)
  case atStart => exact ⟨i, m, 0, rfl, rfl, rfl, hi, by omega, by omega, by rw [Hid, HD.out]; omega⟩
  case round =>
    obtain ⟨i', m', n, rfl, rfl, rfl, h1, h2, h3, H⟩ := hrel
    by_cases hlt : 1 < m'
    · have hr := depth_round i' m' d n h1 H.out (by omega)
      have hl := Pl.half_lt (n := m') (by omega)
      have hp := Pl.half_pos m'
      obtain ⟨k, hk⟩ : ∃ k, Pl.half m' = k := ⟨_, rfl⟩
      rw [hk] at hr hl hp
      have HK := Lib.hid hk
      have HR := Lib.hid hr
      clear hk hr
      by_cases hik : i' < k
      · go_wp2_with fail
        refine (refHalf_any m' _ (by omega) (by omega)).mono ?_
        rintro e w' ⟨rfl, rfl⟩
        rw [HK.out]
        go_wp2
        go_round
        case rel =>
          have := HR.out.1 hik
          exact ⟨i', k, n + 1, rfl, rfl, by go_num, hik, by omega, by omega, this⟩
        case measure => simp [intOf]; omega
      · have w0 : IntKind.i64.wrap ((i' : Int) - k) = ((i' - k : Nat) : Int) := by rw [IntWalk.i64_in _ (by omega)]; omega
        have w1 : IntKind.i64.wrap ((m' : Int) - k) = ((m' - k : Nat) : Int) := by rw [IntWalk.i64_in _ (by omega)]; omega
        go_wp2_with fail
        refine (refHalf_any m' _ (by omega) (by omega)).mono ?_
        rintro e w' ⟨rfl, rfl⟩
        rw [HK.out]
        go_wp2
        go_round
        case rel =>
          have := HR.out.2 hik
          exact ⟨i' - k, m' - k, n + 1, by simp only [w0], by simp only [w1], by go_num, by omega, by omega, by omega, this⟩
        case measure => simp [intOf]; omega
    · have h0 : Pl.depth i' m' = 0 := Pl.depth_one _ _ (by omega)
      have hn : n = d := by have := H.out; omega
      go_wp2
      go_ret
      exact ⟨rfl, rfl⟩

set_option maxHeartbeats 400000 in
theorem depth_any (i m : Nat) (w : World) (hi : i < m) (hm : m ≤ 4611686018427387903) :
    Calls Tryd.prog 106 #[.int .i64 i, .int .i64 m] w fun e w' => e = .returned (.int .i64 (Pl.depth i m : Nat)) ∧ w = w' := by
  obtain ⟨d, hd⟩ : ∃ d, Pl.depth i m = d := ⟨_, rfl⟩
  rw [hd]
  have hdm := Pl.depth_lt i m hi
  rw [hd] at hdm
  have HD := Lib.hid hd
  clear hd
  go_enter Tryd.func106, Tryd.ntmps106
  go_wp2
  go_loop [0, 1, 5] (fun a b c => ∃ i' m' n : Nat, a = .int .i64 (i' : Int) ∧ b = .int .i64 (m' : Int) ∧ c = .int .i64 (n : Int) ∧ i' < m' ∧ m' ≤ m ∧ n ≤ d ∧ Hid (n + Pl.depth i' m' = d)) (fun _ b _ => (intOf b).toNat)
  case atStart => exact ⟨i, m, 0, rfl, rfl, rfl, hi, by omega, by omega, by rw [Hid, HD.out]; omega⟩
  case round =>
    obtain ⟨i', m', n, rfl, rfl, rfl, h1, h2, h3, H⟩ := hrel
    by_cases hlt : 1 < m'
    · have hr := depth_round i' m' d n h1 H.out (by omega)
      have hl := Pl.half_lt (n := m') (by omega)
      have hp := Pl.half_pos m'
      obtain ⟨k, hk⟩ : ∃ k, Pl.half m' = k := ⟨_, rfl⟩
      rw [hk] at hr hl hp
      have HK := Lib.hid hk
      have HR := Lib.hid hr
      clear hk hr
      by_cases hik : i' < k
      · go_wp2_with fail
        refine (half_any m' _ (by omega) (by omega)).mono ?_
        rintro e w' ⟨rfl, rfl⟩
        rw [HK.out]
        go_wp2
        go_round
        case rel =>
          have := HR.out.1 hik
          exact ⟨i', k, n + 1, rfl, rfl, by go_num, hik, by omega, by omega, this⟩
        case measure => simp [intOf]; omega
      · have w0 : IntKind.i64.wrap ((i' : Int) - k) = ((i' - k : Nat) : Int) := by rw [IntWalk.i64_in _ (by omega)]; omega
        have w1 : IntKind.i64.wrap ((m' : Int) - k) = ((m' - k : Nat) : Int) := by rw [IntWalk.i64_in _ (by omega)]; omega
        go_wp2_with fail
        refine (half_any m' _ (by omega) (by omega)).mono ?_
        rintro e w' ⟨rfl, rfl⟩
        rw [HK.out]
        go_wp2
        go_round
        case rel =>
          have := HR.out.2 hik
          exact ⟨i' - k, m' - k, n + 1, by simp only [w0], by simp only [w1], by go_num, by omega, by omega, by omega, this⟩
        case measure => simp [intOf]; omega
    · have h0 : Pl.depth i' m' = 0 := Pl.depth_one _ _ (by omega)
      have hn : n = d := by have := H.out; omega
      go_wp2
      go_ret
      exact ⟨rfl, rfl⟩
end Go.Proofs.YtljmklohgpaopaaDoor
