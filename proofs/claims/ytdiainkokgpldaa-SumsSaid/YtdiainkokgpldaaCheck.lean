/- The walks of sums.byOne, sums.Check and of the reference's Check. -/
import Derived.Test.YtdiainkokgpldaaSum
namespace Go.Proofs.Ytdiainkokgpldaa
open Go.RowKit

theorem and_one_u32 (x : Nat) (h : x < 4294967296) : bits .and .u32 (x : Int) 1 = ((x % 2 : Nat) : Int) := by
  have := u32_and_nat x 1 h (by decide)
  rw [nat_mask1] at this
  exact this

theorem ret_int {k : IntKind} {a b : Int} (h : a = b) : Ending.returned (.int k a) = .returned (.int k b) := by rw [h]
theorem xor_all (n : Nat) (h : n < 4294967296) : 4294967295 ^^^ n = 4294967295 - n := by
  have e : 4294967295 - n = 2 ^ 32 - (n + 1) := by omega
  rw [e]
  apply Nat.eq_of_testBit_eq
  intro i
  rw [Nat.testBit_xor, Nat.testBit_two_pow_sub_succ (by omega), show (4294967295 : Nat) = 2 ^ 32 - 1 from rfl, Nat.testBit_two_pow_sub_one]
  by_cases hi : i < 32
  · simp [hi]
  · have hp : 2 ^ 32 ≤ 2 ^ i := Nat.pow_le_pow_right (by decide) (by omega)
    have : n.testBit i = false := Nat.testBit_lt_two_pow (Nat.lt_of_lt_of_le h hp)
    simp [hi, this]
theorem not_u32 (n : Nat) (h : n < 4294967296) : bits .xor .u32 IntKind.u32.max (n : Int) = ((4294967295 - n : Nat) : Int) := by
  have := u32_xor_nat 4294967295 n (by decide) h
  rw [xor_all n h] at this
  exact this

set_option maxHeartbeats 400000 in
theorem byOne_any (v : Nat) (w : World) (hv : v < 4294967296) :
    Calls Try.prog 12 #[.int .u32 v] w fun e w' => e = .returned (.int .u32 (Pl.byOne v)) ∧ w = w' := by
  go_enter Try.func12, Try.ntmps12
  go_wp2
  go_loop [0, 3] (fun h i => ∃ k : Nat, k ≤ 8 ∧ i = .int .i64 k ∧ ∃ x : Nat, x < 4294967296 ∧ h = .int .u32 x ∧ Hid (Pl.bitN k v = x)) (fun _ i => 8 - (intOf i).toNat)
  case atStart => exact ⟨0, by omega, rfl, v, hv, rfl, rfl⟩
  case round =>
    obtain ⟨k, hk, rfl, x, hx, rfl, HX⟩ := hrel
    have ha := and_one_u32 x hx
    have hxx := u32_xor_nat (x / 2) 3988292384 (by omega) (by decide)
    have hn := Pl.bitStep_lt hx
    by_cases hk8 : k < 8
    · by_cases hodd : x % 2 = 1
      · have ht : (bits .and .u32 (x : Int) 1 == 1) = true := by rw [ha]; simp; omega
        have HB : Hid (Pl.bitStep x = x / 2 ^^^ 3988292384) := by simp [Hid, Pl.bitStep, hodd]
        have hx2 : bits .xor .u32 ((x : Int) / 2) 3988292384 = ((x / 2 ^^^ 3988292384 : Nat) : Int) := hxx
        clear ha hodd hxx
        go_wp2
        go_round
        case rel => exact ⟨k + 1, by omega, by go_num, _, (by rw [← HB.out]; exact hn), rfl, by rw [Hid, Pl.bitN, HX.out, HB.out]⟩
        case measure => simp [intOf]; omega
      · have ht : (bits .and .u32 (x : Int) 1 == 1) = false := by rw [ha]; simp; omega
        have HB : Hid (Pl.bitStep x = x / 2) := by simp [Hid, Pl.bitStep, hodd]
        clear ha hodd hxx
        go_wp2
        go_round
        case rel => exact ⟨k + 1, by omega, by go_num, x / 2, by omega, by go_num, by rw [Hid, Pl.bitN, HX.out, HB.out]⟩
        case measure => simp [intOf]; omega
    · obtain rfl : k = 8 := by omega
      clear ha hxx
      go_wp2
      go_ret
      exact ⟨by rw [Pl.byOne, HX.out]; rfl, rfl⟩

set_option maxHeartbeats 400000 in
theorem check_any (A : Option Addr) (cap : Nat) (l : List UInt8) (w : World) (hb : BytesAt w A l) (hm : l.length ≤ 9223372036854775807) :
    Calls Try.prog 6 #[.slice A l.length cap] w fun e w' => e = .returned (.int .u32 (4294967295 - Pl.checkN l : Nat)) ∧ w = w' := by
  go_enter Try.func6, Try.ntmps6
  go_wp2
  go_loop [3, 8] (fun h i => ∃ k : Nat, k ≤ l.length ∧ i = .int .i64 k ∧ h = .int .u32 (Pl.checkN (l.take k))) (fun _ i => l.length - (intOf i).toNat)
  case atStart => exact ⟨0, Nat.zero_le _, rfl, rfl⟩
  case round =>
    obtain ⟨k, hk, rfl, rfl⟩ := hrel
    have hlt := Pl.checkN_lt (l.take k)
    by_cases hkl : k < l.length
    · obtain ⟨b, off, rfl, hc⟩ := hb.at_ k hkl
      have hcl : (l[k].toNat : Int) < 256 := by have := l[k].toNat_lt; omega
      have hx := u32_xor_nat (Pl.checkN (l.take k)) l[k].toNat hlt (by omega)
      have hn := Nat.xor_lt_two_pow (n := 32) hlt (show l[k].toNat < 2 ^ 32 by omega)
      go_wp2_with fail
      refine (byOne_any _ _ hn).mono ?_
      rintro e w' ⟨rfl, rfl⟩
      go_wp2
      go_round
      case rel =>
        refine ⟨k + 1, by omega, by go_num, ?_⟩
        rw [take_snoc l k hkl, Pl.checkN_snoc]
        rfl
      case measure => simp [intOf]; omega
    · have hkk : k = l.length := by omega
      subst hkk
      rw [List.take_length] at hlt
      simp only [List.take_length]
      go_wp2
      go_ret
      exact ⟨ret_int (not_u32 _ hlt), rfl⟩

set_option maxHeartbeats 400000 in
set_option maxRecDepth 100000 in
theorem refCheck_any (s : ByteArray) (w : World) (hm : s.size ≤ 9223372036854775807) :
    Calls Try.prog 9 #[.string s] w fun e w' => e = .returned (.int .u32 (4294967295 - Pl.checkN s.data.toList : Nat)) ∧ w = w' := by
  go_enter Try.func9, Try.ntmps9
  go_wp2
  go_loop [3, 4] (fun h i => ∃ k : Nat, k ≤ s.size ∧ i = .int .i64 k ∧ h = .int .u32 (Pl.checkN (s.data.toList.take k))) (fun _ i => s.size - (intOf i).toNat)
  case atStart => exact ⟨0, Nat.zero_le _, rfl, rfl⟩
  case round =>
    obtain ⟨k, hk, rfl, rfl⟩ := hrel
    have hlt := Pl.checkN_lt (s.data.toList.take k)
    by_cases hkl : k < s.size
    · obtain ⟨c, hc⟩ : ∃ c, s[k] = c := ⟨_, rfl⟩
      have HC : Hid (s.data.toList[k]'hkl = c) := hc
      have hcl : (c.toNat : Int) < 256 := by have := c.toNat_lt; omega
      have hx := u32_xor_nat (Pl.checkN (s.data.toList.take k)) c.toNat hlt (by omega)
      have hn := Nat.xor_lt_two_pow (n := 32) hlt (show c.toNat < 2 ^ 32 by omega)
      go_wp2
      clear hc hx
      go_loop [3, 5] (fun h i => ∃ j : Nat, j ≤ 8 ∧ i = .int .i64 j ∧ ∃ x : Nat, x < 4294967296 ∧ h = .int .u32 x ∧ Hid (Pl.bitN j (Pl.checkN (s.data.toList.take k) ^^^ c.toNat) = x)) (fun _ i => 8 - (intOf i).toNat)
      case atStart => exact ⟨0, by omega, rfl, _, hn, rfl, rfl⟩
      case round =>
        obtain ⟨j, hj, rfl, x, hx, rfl, HX⟩ := hrel
        have hn := Pl.bitStep_lt hx
        have hxx := u32_xor_nat (x / 2) 3988292384 (by omega) (by decide)
        have hx2 : bits .xor .u32 ((x : Int) / 2) 3988292384 = ((x / 2 ^^^ 3988292384 : Nat) : Int) := hxx
        clear hxx
        by_cases hj8 : j < 8
        · by_cases hodd : x % 2 = 1
          · have ht : ((x : Int) % 2 == 1) = true := by simp; omega
            have HB : Hid (Pl.bitStep x = x / 2 ^^^ 3988292384) := by simp [Hid, Pl.bitStep, hodd]
            clear hodd
            go_wp2
            go_round
            case rel => exact ⟨j + 1, by omega, by go_num, _, (by rw [← HB.out]; exact hn), rfl, by rw [Hid, Pl.bitN, HX.out, HB.out]⟩
            case measure => simp [intOf]; omega
          · have ht : ((x : Int) % 2 == 1) = false := by simp; omega
            have HB : Hid (Pl.bitStep x = x / 2) := by simp [Hid, Pl.bitStep, hodd]
            clear hodd hx2
            go_wp2
            go_round
            case rel => exact ⟨j + 1, by omega, by go_num, x / 2, by omega, by go_num, by rw [Hid, Pl.bitN, HX.out, HB.out]⟩
            case measure => simp [intOf]; omega
        · obtain rfl : j = 8 := by omega
          clear hx2
          go_wp2
          go_round
          case rel =>
            refine ⟨k + 1, by omega, by go_num, ?_⟩
            rw [take_snoc _ k hkl, Pl.checkN_snoc, ← HX.out, HC.out]
            rfl
          case measure => simp [intOf]; omega
    · have hkk : k = s.data.toList.length := by show k = s.size; omega
      rw [show s.data.toList.take k = s.data.toList by rw [hkk, List.take_length]] at hlt ⊢
      clear hkk
      go_wp2
      go_ret
      exact ⟨ret_int (by omega), rfl⟩
end Go.Proofs.Ytdiainkokgpldaa
