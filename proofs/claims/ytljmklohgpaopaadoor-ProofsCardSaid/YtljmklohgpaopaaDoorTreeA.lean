/- The walks of sums.Leaf, Half, Node and of the reference's half. -/
import Derived.Test.YtljmklohgpaopaaDoorStr
import Derived.Test.YtljmklohgpaopaaDoorOwn
import Derived.Test.YtljmklohgpaopaaDoorPlainTree
namespace Go.Proofs.YtljmklohgpaopaaDoor
open Go.RowKit

theorem BytesAt.src {w : World} {A : Option Addr} {l : List UInt8} (h : BytesAt w A l) : Src w A (bv l) := by
  rcases h with rfl | ⟨b, off, rfl, h⟩
  · exact .inl rfl
  · refine .inr ⟨b, off, rfl, fun j u hu => ?_⟩
    have hj : j < l.length := by
      rcases Nat.lt_or_ge j l.length with h' | h'
      · exact h'
      · rw [List.getElem?_eq_none (by simpa using h')] at hu; cases hu
    rw [getb l j hj] at hu
    rw [← hu]
    exact h j hj
theorem Src.bytes {w : World} {A : Option Addr} {l : List UInt8} (h : Src w A (bv l)) : BytesAt w A l := by
  rcases h with h | ⟨b, off, rfl, h⟩
  · left
    have := congrArg List.length h
    simp at this
    exact this
  · exact .inr ⟨b, off, rfl, fun i hi => h i _ (getb l i hi)⟩
theorem BytesAt.keep {w w' : World} {A : Option Addr} {l : List UInt8} (h : BytesAt w A l) (hb : Below w.heap.size w w') : BytesAt w' A l := (h.src.below hb).bytes

theorem own_new {w : World} (e : TypeId) (x : Value) : (w.alloc (.cells #[x] e)).ownsRow w.heap.size e 1 (.slice (some ⟨w.heap.size, 0, none⟩) 1 1) 1 [x] :=
  ⟨rfl, .inr ⟨w.heap.size, 1, #[x], rfl, Nat.le_refl _, heap_alloc_new w _, Nat.le_refl _, by simp [maxLen], rfl, rfl⟩⟩

/-- An append to a slice of bytes that the call owns: Go's own bound. -/
theorem byte_room {n m : Nat} (h : n + m ≤ 140737488355328) : ∀ old, old < n + m → Builtin.nextslicecap (n + m) old * 1 ≤ 281474976710656 := by
  intro old ho
  exact growslice_fits ho (by omega)

set_option maxHeartbeats 400000 in
theorem leaf_any (A : Option Addr) (cap : Nat) (l : List UInt8) (w : World) (hb : BytesAt w A l) (hm : l.length ≤ 140737488351232) :
    Calls Tryd.prog 113 #[.slice A l.length cap] w fun e w' => ∃ A' cap', e = .returned (.slice A' (l.length + 1) cap') ∧ BytesAt w' A' (0 :: l) ∧ Below w.heap.size w w' := by
  obtain ⟨i0, hi, hz0, hz1, hz2⟩ := info_parts Tryd.infoByte
  have hs := (hb.keep (w' := w.alloc (.cells #[.int .u8 0] 5)) ((Below.refl _ _).alloc (Nat.le_refl _) _)).src
  go_enter Tryd.func113, Tryd.ntmps113
  go_wp2_with (at_builtin; refine wpList_append_src _ rfl _ _ 23 rfl w.heap.size 5 i0 (.int .u8 0) 1 1 Tryd.underlying23 hi hz0 hz1 hz2 rfl (by decide) _ 1 [.int .u8 0] rfl (own_new _ _) A l.length cap (bv l) rfl (by simp) hs (bv_one _) (by simp only [maxLen]; omega) (byte_room (by omega)) (by simp) ?_; intro v' w1 hown hgrow hat)
  obtain ⟨A1, cap1, rfl, hcap, hsrc, _⟩ := own_src hown
  go_wp2
  go_ret
  refine ⟨A1, cap1, by simp [Nat.add_comm], Src.bytes (by simpa [bv] using hsrc), ((Below.refl _ _).alloc (Nat.le_refl _) _).grown hgrow (by simp) (fun k hk => ?_)⟩
  cases hk
  exact Nat.le_refl _

set_option maxHeartbeats 400000 in
theorem half_any (n : Nat) (w : World) (h1 : 1 ≤ n) (h2 : n ≤ 4611686018427387903) :
    Calls Tryd.prog 112 #[.int .i64 (n : Int)] w fun e w' => e = .returned (.int .i64 (Pl.half n : Nat)) ∧ w = w' := by
  go_enter Tryd.func112, Tryd.ntmps112
  go_wp2
  go_loop [3] (fun i => ∃ j k : Nat, Hid (2 ^ j = k) ∧ i = .int .i64 (k : Int) ∧ 1 ≤ k ∧ k ≤ n ∧ (j = 0 ∨ k < n)) (fun i => n - (intOf i).toNat)
  case atStart => exact ⟨0, 1, rfl, rfl, by omega, h1, .inl rfl⟩
  case round =>
    obtain ⟨j, k, HK, rfl, hk1, hkn, hj⟩ := hrel
    by_cases hlt : 2 * k < n
    · go_wp2
      go_round
      case rel => exact ⟨j + 1, 2 * k, by rw [Hid, Nat.pow_succ, HK.out, Nat.mul_comm], by go_num, by omega, by omega, .inr hlt⟩
      case measure => simp [intOf]; omega
    · have hh : Hid (k = Pl.half n) := by
        have hx := HK.out
        rw [← hx] at hlt hkn hj ⊢
        exact Pl.half_of (by rcases hj with h | h; exact .inl h; exact .inr h) (by omega) h1
      go_wp2


      go_ret
      exact ⟨by rw [← hh.out]; rfl, rfl⟩

set_option maxHeartbeats 400000 in
theorem refHalf_any (n : Nat) (w : World) (h1 : 1 ≤ n) (h2 : n ≤ 4611686018427387903) :
    Calls Tryd.prog 57 #[.int .i64 (n : Int)] w fun e w' => e = .returned (.int .i64 (Pl.half n : Nat)) ∧ w = w' := by
  go_enter Tryd.func57, Tryd.ntmps57
  go_wp2
  go_loop [3] (fun i => ∃ j k : Nat, Hid (2 ^ j = k) ∧ i = .int .i64 (k : Int) ∧ 1 ≤ k ∧ k ≤ n ∧ (j = 0 ∨ k < n)) (fun i => n - (intOf i).toNat)
  case atStart => exact ⟨0, 1, rfl, rfl, by omega, h1, .inl rfl⟩
  case round =>
    obtain ⟨j, k, HK, rfl, hk1, hkn, hj⟩ := hrel
    by_cases hlt : 2 * k < n
    · go_wp2
      go_round
      case rel => exact ⟨j + 1, 2 * k, by rw [Hid, Nat.pow_succ, HK.out, Nat.mul_comm], by go_num, by omega, by omega, .inr hlt⟩
      case measure => simp [intOf]; omega
    · have hh : Hid (k = Pl.half n) := by
        have hx := HK.out
        rw [← hx] at hlt hkn hj ⊢
        exact Pl.half_of (by rcases hj with h | h; exact .inl h; exact .inr h) (by omega) h1
      go_wp2
      go_ret
      exact ⟨by rw [← hh.out]; rfl, rfl⟩
end Go.Proofs.YtljmklohgpaopaaDoor
