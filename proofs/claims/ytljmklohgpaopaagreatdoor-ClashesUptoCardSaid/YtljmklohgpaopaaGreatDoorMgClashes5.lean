/- The walks of sums.byOne, sums.Check and of the reference's Check. The walks of the codec's Must, IsName, IsValue, and of the document's. The walks of the codec's Num of eight bytes, IsValue, Name, Value. errors.As walked: a TableError into a TableError's pointer; a Kind into a TableError's pointer (no); a Kind into a Kind. errors.As walked: a TableError into a TableError's pointer; a Kind into a TableError's pointer (no); a Kind into a Kind. -/
import Derived.Test.YtljmklohgpaopaaGreatDoorMgClashes1
import Derived.Test.YtljmklohgpaopaaGreatDoorMgClashes3
import Derived.Test.YtljmklohgpaopaaGreatDoorMgClashes4
set_option linter.unusedVariables false
set_option linter.unusedSimpArgs false

namespace Go.Proofs.YtljmklohgpaopaaGreatDoor
open Go.RowKit

theorem and_one_u32 (x : Nat) (h : x < 4294967296) : bits .and .u32 (x : Int) 1 = ((x % 2 : Nat) : Int) := by
  have := u32_and_nat x 1 h (by decide)
  rw [nat_mask1] at this
  exact this

theorem ret_int {k : IntKind} {a b : Int} (h : a = b) : Ending.returned (.int k a) = .returned (.int k b) := by rw [h]
theorem xor_all (n : Nat) (h : n < 4294967296) : 4294967295 ^^^ n = 4294967295 - n := by
  have e : 4294967295 - n = 2 ^ 32 - (n + 1) := by omega
  rw [e]
  apply Nat.eq_of_testBit_eq
  intro i
  rw [Nat.testBit_xor, Nat.testBit_two_pow_sub_succ (by omega), show (4294967295 : Nat) = 2 ^ 32 - 1 from rfl, Nat.testBit_two_pow_sub_one]
  by_cases hi : i < 32
  · simp [hi]
  · have hp : 2 ^ 32 ≤ 2 ^ i := Nat.pow_le_pow_right (by decide) (by omega)
    have : n.testBit i = false := Nat.testBit_lt_two_pow (Nat.lt_of_lt_of_le h hp)
    simp [hi, this]
theorem not_u32 (n : Nat) (h : n < 4294967296) : bits .xor .u32 IntKind.u32.max (n : Int) = ((4294967295 - n : Nat) : Int) := by
  have := u32_xor_nat 4294967295 n (by decide) h
  rw [xor_all n h] at this
  exact this

set_option maxHeartbeats 400000 in
theorem byOne_any (v : Nat) (w : World) (hv : v < 4294967296) :
    Calls Tryz.prog 187 #[.int .u32 v] w fun e w' => e = .returned (.int .u32 (Pl.byOne v)) ∧ w = w' := by
  go_enter Tryz.func187, Tryz.ntmps187
  go_wp2
  go_loop [0, 3] (fun h i => ∃ k : Nat, k ≤ 8 ∧ i = .int .i64 k ∧ ∃ x : Nat, x < 4294967296 ∧ h = .int .u32 x ∧ Hid (Pl.bitN k v = x)) (fun _ i => 8 - (intOf i).toNat)
  case atStart => exact ⟨0, by omega, rfl, v, hv, rfl, rfl⟩
  case round =>
    obtain ⟨k, hk, rfl, x, hx, rfl, HX⟩ := hrel
    have ha := and_one_u32 x hx
    have hxx := u32_xor_nat (x / 2) 3988292384 (by omega) (by decide)
    have hn := Pl.bitStep_lt hx
    by_cases hk8 : k < 8
    · by_cases hodd : x % 2 = 1
      · have ht : (bits .and .u32 (x : Int) 1 == 1) = true := by rw [ha]; simp; omega
        have HB : Hid (Pl.bitStep x = x / 2 ^^^ 3988292384) := by simp [Hid, Pl.bitStep, hodd]
        have hx2 : bits .xor .u32 ((x : Int) / 2) 3988292384 = ((x / 2 ^^^ 3988292384 : Nat) : Int) := hxx
        clear ha hodd hxx
        go_wp2
        go_round
        case rel => exact ⟨k + 1, by omega, by go_num, _, (by rw [← HB.out]; exact hn), rfl, by rw [Hid, Pl.bitN, HX.out, HB.out]⟩
        case measure => simp [intOf]; omega
      · have ht : (bits .and .u32 (x : Int) 1 == 1) = false := by rw [ha]; simp; omega
        have HB : Hid (Pl.bitStep x = x / 2) := by simp [Hid, Pl.bitStep, hodd]
        clear ha hodd hxx
        go_wp2
        go_round
        case rel => exact ⟨k + 1, by omega, by go_num, x / 2, by omega, by go_num, by rw [Hid, Pl.bitN, HX.out, HB.out]⟩
        case measure => simp [intOf]; omega
    · obtain rfl : k = 8 := by omega
      clear ha hxx
      go_wp2
      go_ret
      exact ⟨by rw [Pl.byOne, HX.out]; rfl, rfl⟩

set_option maxHeartbeats 400000 in
theorem check_any (A : Option Addr) (cap : Nat) (l : List UInt8) (w : World) (hb : BytesAt w A l) (hm : l.length ≤ 9223372036854775807) :
    Calls Tryz.prog 168 #[.slice A l.length cap] w fun e w' => e = .returned (.int .u32 (4294967295 - Pl.checkN l : Nat)) ∧ w = w' := by
  go_enter Tryz.func168, Tryz.ntmps168
  go_wp2
  go_loop [3, 8] (fun h i => ∃ k : Nat, k ≤ l.length ∧ i = .int .i64 k ∧ h = .int .u32 (Pl.checkN (l.take k))) (fun _ i => l.length - (intOf i).toNat)
  case atStart => exact ⟨0, Nat.zero_le _, rfl, rfl⟩
  case round =>
    obtain ⟨k, hk, rfl, rfl⟩ := hrel
    have hlt := Pl.checkN_lt (l.take k)
    by_cases hkl : k < l.length
    · obtain ⟨b, off, rfl, hc⟩ := hb.at_ k hkl
      have hcl : (l[k].toNat : Int) < 256 := by have := l[k].toNat_lt; omega
      have hx := u32_xor_nat (Pl.checkN (l.take k)) l[k].toNat hlt (by omega)
      have hn := Nat.xor_lt_two_pow (n := 32) hlt (show l[k].toNat < 2 ^ 32 by omega)
      go_wp2_with fail
      refine (byOne_any _ _ hn).mono ?_
      rintro e w' ⟨rfl, rfl⟩
      go_wp2
      go_round
      case rel =>
        refine ⟨k + 1, by omega, by go_num, ?_⟩
        rw [take_snoc l k hkl, Pl.checkN_snoc]
        rfl
      case measure => simp [intOf]; omega
    · have hkk : k = l.length := by omega
      subst hkk
      rw [List.take_length] at hlt
      simp only [List.take_length]
      go_wp2
      go_ret
      exact ⟨ret_int (not_u32 _ hlt), rfl⟩

set_option maxHeartbeats 400000 in
set_option maxRecDepth 100000 in
theorem refCheck_any (s : ByteArray) (w : World) (hm : s.size ≤ 9223372036854775807) :
    Calls Tryz.prog 121 #[.string s] w fun e w' => e = .returned (.int .u32 (4294967295 - Pl.checkN s.data.toList : Nat)) ∧ w = w' := by
  go_enter Tryz.func121, Tryz.ntmps121
  go_wp2
  go_loop [3, 4] (fun h i => ∃ k : Nat, k ≤ s.size ∧ i = .int .i64 k ∧ h = .int .u32 (Pl.checkN (s.data.toList.take k))) (fun _ i => s.size - (intOf i).toNat)
  case atStart => exact ⟨0, Nat.zero_le _, rfl, rfl⟩
  case round =>
    obtain ⟨k, hk, rfl, rfl⟩ := hrel
    have hlt := Pl.checkN_lt (s.data.toList.take k)
    by_cases hkl : k < s.size
    · obtain ⟨c, hc⟩ : ∃ c, s[k] = c := ⟨_, rfl⟩
      have HC : Hid (s.data.toList[k]'hkl = c) := hc
      have hcl : (c.toNat : Int) < 256 := by have := c.toNat_lt; omega
      have hx := u32_xor_nat (Pl.checkN (s.data.toList.take k)) c.toNat hlt (by omega)
      have hn := Nat.xor_lt_two_pow (n := 32) hlt (show c.toNat < 2 ^ 32 by omega)
      go_wp2
      clear hc hx
      go_loop [3, 5] (fun h i => ∃ j : Nat, j ≤ 8 ∧ i = .int .i64 j ∧ ∃ x : Nat, x < 4294967296 ∧ h = .int .u32 x ∧ Hid (Pl.bitN j (Pl.checkN (s.data.toList.take k) ^^^ c.toNat) = x)) (fun _ i => 8 - (intOf i).toNat)
      case atStart => exact ⟨0, by omega, rfl, _, hn, rfl, rfl⟩
      case round =>
        obtain ⟨j, hj, rfl, x, hx, rfl, HX⟩ := hrel
        have hn := Pl.bitStep_lt hx
        have hxx := u32_xor_nat (x / 2) 3988292384 (by omega) (by decide)
        have hx2 : bits .xor .u32 ((x : Int) / 2) 3988292384 = ((x / 2 ^^^ 3988292384 : Nat) : Int) := hxx
        clear hxx
        by_cases hj8 : j < 8
        · by_cases hodd : x % 2 = 1
          · have ht : ((x : Int) % 2 == 1) = true := by simp; omega
            have HB : Hid (Pl.bitStep x = x / 2 ^^^ 3988292384) := by simp [Hid, Pl.bitStep, hodd]
            clear hodd
            go_wp2
            go_round
            case rel => exact ⟨j + 1, by omega, by go_num, _, (by rw [← HB.out]; exact hn), rfl, by rw [Hid, Pl.bitN, HX.out, HB.out]⟩
            case measure => simp [intOf]; omega
          · have ht : ((x : Int) % 2 == 1) = false := by simp; omega
            have HB : Hid (Pl.bitStep x = x / 2) := by simp [Hid, Pl.bitStep, hodd]
            clear hodd hx2
            go_wp2
            go_round
            case rel => exact ⟨j + 1, by omega, by go_num, x / 2, by omega, by go_num, by rw [Hid, Pl.bitN, HX.out, HB.out]⟩
            case measure => simp [intOf]; omega
        · obtain rfl : j = 8 := by omega
          clear hx2
          go_wp2
          go_round
          case rel =>
            refine ⟨k + 1, by omega, by go_num, ?_⟩
            rw [take_snoc _ k hkl, Pl.checkN_snoc, ← HX.out, HC.out]
            rfl
          case measure => simp [intOf]; omega
    · have hkk : k = s.data.toList.length := by show k = s.size; omega
      rw [show s.data.toList.take k = s.data.toList by rw [hkk, List.take_length]] at hlt ⊢
      clear hkk
      go_wp2
      go_ret
      exact ⟨ret_int (by omega), rfl⟩
end Go.Proofs.YtljmklohgpaopaaGreatDoor

namespace Go.Proofs.YtljmklohgpaopaaGreatDoor
open Go.RowKit

/-- What '[]byte(s)' lays. -/
def bytesObj (s : ByteArray) (cap : Nat) : Obj := .cells (bytesRow s cap) 5 ((bytesRow s cap).size, (bytesRow s cap).size + 1)
theorem run_tobytes (w : World) (s : ByteArray) : (convert 9 25 (.string s)).run Tryz.prog w = .ok (.slice (some ⟨w.heap.size, 0, none⟩) s.size (grownCap w s.size 0 5)) (w.drew.alloc (bytesObj s (grownCap w s.size 0 5))) :=
  run_bytes_of_string w 9 25 5 s Tryz.underlying9 Tryz.underlying25 Tryz.underlying5
theorem bytesObj_at {w : World} {g cap : Nat} {s : ByteArray} (h : w.heap[g]? = some (bytesObj s cap)) : BytesAt w (some ⟨g, 0, none⟩) s.data.toList := by
  refine .inr ⟨g, 0, rfl, fun i hi => ?_⟩
  have hi' : i < s.data.size := by simpa using hi
  rw [Nat.zero_add, cell_of_row w g i _ _ _ h, bytesRow_at s cap i hi']
  simp

set_option maxHeartbeats 1000000 in
theorem must_any (g : Nat) (l : List UInt8) (bad b : Bool) (w : World) (h : Rdr w g l bad) :
    Calls Tryz.prog 166 #[.pointer (some ⟨g, 0, none⟩), .bool b] w fun e w' => e = .returned (.tuple #[]) ∧ Rdr w' g l (bad || !b) ∧ Only (· = g) w w' := by
  obtain ⟨A, cap, hc, hm, hB, hb, hA⟩ := h
  have hlt := hB.lt
  have c1 := hB.cell 1
  have f1 := hB.frozen 1
  simp only [List.getElem?_cons_zero, List.getElem?_cons_succ] at c1
  have ho : ∀ x : Value, Only (· = g) w (w.setCell ⟨g, 1, none⟩ x) := fun x => (Only.refl (· = g) w).setCell (p := ⟨g, 1, none⟩) (.inl rfl) x
  have hfin : ∀ x : Bool, Rdr (w.setCell ⟨g, 1, none⟩ (.bool x)) g l x := fun x => Rdr.put hlt (ho _) (hB.set_ 1 (.bool x)) rfl hc hm hb hA
  have HO := Lib.hid ho
  have HF := Lib.hid hfin
  clear ho hfin hB hb hA hc hm
  cases bad with
  | true =>
    go_enter Tryz.func166, Tryz.ntmps166
    go_wp2_with fail
    go_end0
    exact ⟨rfl, HF.out true, HO.out _⟩
  | false =>
    cases b with
    | true =>
      go_enter Tryz.func166, Tryz.ntmps166
      go_wp2_with fail
      go_end0
      exact ⟨rfl, HF.out false, HO.out _⟩
    | false =>
      go_enter Tryz.func166, Tryz.ntmps166
      go_wp2_with fail
      go_end0
      exact ⟨rfl, HF.out true, HO.out _⟩

theorem nameOk_iff (s : ByteArray) : Pl.NameOk s.data.toList ↔ (1 ≤ s.size ∧ s.size ≤ 8) ∧ ∀ k (h : k < s.size), 97 ≤ s[k].toNat ∧ s[k].toNat ≤ 122 := by
  unfold Pl.NameOk
  have hl : s.data.toList.length = s.size := by simp
  rw [hl]
  refine and_congr_right fun _ => ⟨fun h k hk => h _ ?_, fun h c hc => ?_⟩
  · have : s[k] = s.data.toList[k]'(by rw [hl]; exact hk) := rfl
    rw [this]
    exact List.getElem_mem _
  · obtain ⟨k, hk, rfl⟩ := List.getElem_of_mem hc
    exact h k (by rw [← hl]; exact hk)

set_option maxHeartbeats 1000000 in
set_option maxRecDepth 100000 in
theorem refIsName_any (s : ByteArray) (w : World) (hs : s.size ≤ 140737488351232) :
    Calls Tryz.prog 118 #[.string s] w fun e w' => e = .returned (.bool (decide (Pl.NameOk s.data.toList))) ∧ w = w' := by
  have hd : ∀ b : Bool, (b = true ↔ (1 ≤ s.size ∧ s.size ≤ 8) ∧ ∀ k (h : k < s.size), 97 ≤ s[k].toNat ∧ s[k].toNat ≤ 122) → decide (Pl.NameOk s.data.toList) = b := by
    intro b hb
    rw [Bool.eq_iff_iff, hb, decide_eq_true_iff, nameOk_iff]
  have HD := Lib.hid hd
  clear hd
  go_enter Tryz.func118, Tryz.ntmps118
  go_wp2_with fail
  go_loopw [3] (fun i W => ∃ k : Nat, k ≤ s.size ∧ i = .int .i64 (k : Int) ∧ Hid (∀ j (h : j < s.size), j < k → 97 ≤ s[j].toNat ∧ s[j].toNat ≤ 122) ∧ w = W) (fun i _ => s.size - (intOf i).toNat)
  case atStart => exact ⟨0, Nat.zero_le _, rfl, fun j _ h => by omega, rfl⟩
  case round =>
    obtain ⟨k, hk, rfl, HJ, rfl⟩ := hrel
    by_cases hks : k < s.size
    · obtain ⟨c, hc⟩ : ∃ c, s[k] = c := ⟨_, rfl⟩
      have HC := Lib.hid hc
      have q1 : ((k : Nat) : Int) < ((s.size : Nat) : Int) := by omega
      by_cases hlo : c.toNat < 97
      · have q2 : ((c.toNat : Nat) : Int) < 97 := by omega
        have q3 : decide (((c.toNat : Nat) : Int) < 97) = true := decide_eq_true q2
        have HLO := Lib.hid hlo
        have HK := Lib.hid hks
        clear hlo
        go_wp2_with fail
        go_ret
        have hn := HD.out false ⟨(fun h => by cases h), fun h => by
          have h5 := h.2 k HK.out
          rw [HC.out] at h5
          have h6 := HLO.out
          omega⟩
        exact ⟨by rw [hn]; rfl, rfl⟩
      · have q2 : ¬ ((c.toNat : Nat) : Int) < 97 := by omega
        have q3 : decide (((c.toNat : Nat) : Int) < 97) = false := decide_eq_false q2
        by_cases hhi : 122 < c.toNat
        · have q4 : (122 : Int) < ((c.toNat : Nat) : Int) := by omega
          have q5 : decide ((122 : Int) < ((c.toNat : Nat) : Int)) = true := decide_eq_true q4
          have HHI := Lib.hid hhi
          have HK := Lib.hid hks
          clear hlo hhi
          go_wp2_with fail
          go_ret
          have hn := HD.out false ⟨(fun h => by cases h), fun h => by
            have h5 := h.2 k HK.out
            rw [HC.out] at h5
            have h6 := HHI.out
            omega⟩
          exact ⟨by rw [hn]; rfl, rfl⟩
        · have q4 : ¬ (122 : Int) < ((c.toNat : Nat) : Int) := by omega
          have q5 : decide ((122 : Int) < ((c.toNat : Nat) : Int)) = false := decide_eq_false q4
          have HLO : Hid (97 ≤ c.toNat ∧ c.toNat ≤ 122) := by rw [Hid]; omega
          clear hlo hhi
          go_wp2_with fail
          refine ⟨⟨k + 1, by omega, by go_num, fun j hj hjk => ?_, by trivial⟩, by simp [intOf]; omega⟩
          by_cases hjk' : j < k
          · exact HJ.out j hj hjk'
          · obtain rfl : j = k := by omega
            rw [HC.out]
            exact HLO.out
    · obtain rfl : k = s.size := by omega
      by_cases h1 : 1 ≤ s.size
      · have p1 : (1 : Int) ≤ ((s.size : Nat) : Int) := by omega
        have p2 : decide ((1 : Int) ≤ ((s.size : Nat) : Int)) = true := decide_eq_true p1
        by_cases h8 : s.size ≤ 8
        · have p3 : ((s.size : Nat) : Int) ≤ 8 := by omega
          have p4 : decide (((s.size : Nat) : Int) ≤ 8) = true := decide_eq_true p3
          go_wp2_with fail
          go_ret
          refine ⟨by rw [HD.out true ⟨fun _ => ⟨⟨h1, h8⟩, fun j hj => HJ.out j hj hj⟩, fun _ => rfl⟩]; rfl, rfl⟩
        · have p3 : ¬ ((s.size : Nat) : Int) ≤ 8 := by omega
          have p4 : decide (((s.size : Nat) : Int) ≤ 8) = false := decide_eq_false p3
          go_wp2_with fail
          go_ret
          refine ⟨by rw [HD.out false ⟨(fun h => by cases h), fun h => absurd h.1.2 h8⟩]; rfl, rfl⟩
      · have p1 : ¬ (1 : Int) ≤ ((s.size : Nat) : Int) := by omega
        have p2 : decide ((1 : Int) ≤ ((s.size : Nat) : Int)) = false := decide_eq_false p1
        go_wp2_with fail
        go_ret
        refine ⟨by rw [HD.out false ⟨(fun h => by cases h), fun h => absurd h.1.1 h1⟩]; rfl, rfl⟩

set_option maxHeartbeats 1000000 in
set_option maxRecDepth 100000 in
theorem isName_any (s : ByteArray) (w : World) (hs : s.size ≤ 140737488351232) :
    Calls Tryz.prog 194 #[.string s] w fun e w' => e = .returned (.bool (decide (Pl.NameOk s.data.toList))) ∧ Below w.heap.size w w' := by
  have hd : ∀ b : Bool, (b = true ↔ (1 ≤ s.size ∧ s.size ≤ 8) ∧ ∀ k (h : k < s.size), 97 ≤ s[k].toNat ∧ s[k].toNat ≤ 122) → decide (Pl.NameOk s.data.toList) = b := by
    intro b hb
    rw [Bool.eq_iff_iff, hb, decide_eq_true_iff, nameOk_iff]
  have HD := Lib.hid hd
  have hcv := run_tobytes w s
  obtain ⟨cap, hcap⟩ : ∃ cap, grownCap w s.size 0 5 = cap := ⟨_, rfl⟩
  rw [hcap] at hcv
  obtain ⟨w1, hw1⟩ : ∃ w1, w.drew.alloc (bytesObj s cap) = w1 := ⟨_, rfl⟩
  rw [hw1] at hcv
  have hb1 : Below w.heap.size w w1 := by rw [← hw1]; exact (Below.refl _ _).drew.alloc (Nat.le_refl _) _
  have HB1 := Lib.hid hb1
  have hbs : BytesAt w1 (some ⟨w.heap.size, 0, none⟩) s.data.toList := bytesObj_at (cap := cap) (by rw [← hw1]; exact heap_alloc_new w.drew _)
  have HBS := Lib.hid hbs
  clear hd hb1 hbs hcap hw1
  go_enter Tryz.func194, Tryz.ntmps194
  go_wp2_with fail
  go_loopw [8] (fun i W => ∃ k : Nat, k ≤ s.size ∧ i = .int .i64 (k : Int) ∧ Hid (∀ j (h : j < s.size), j < k → 97 ≤ s[j].toNat ∧ s[j].toNat ≤ 122) ∧ w1 = W) (fun i _ => s.size - (intOf i).toNat)
  case atStart => exact ⟨0, Nat.zero_le _, rfl, fun j _ h => by omega, rfl⟩
  case round =>
    obtain ⟨k, hk, rfl, HJ, rfl⟩ := hrel
    by_cases hks : k < s.size
    · obtain ⟨c, hc⟩ : ∃ c, s[k] = c := ⟨_, rfl⟩
      have HC := Lib.hid hc
      have cB : w1.cell? ⟨w.heap.size, k, none⟩ = some (.int .u8 ((c.toNat : Nat) : Int)) := by
        obtain ⟨b, off, e, h9⟩ := HBS.out.at_ k (by simpa using hks)
        injection e with e
        injection e with e1 e2 _
        subst e1 e2
        rw [Nat.zero_add] at h9
        rw [h9, ← hc]
        rfl
      have q1 : ((k : Nat) : Int) < ((s.size : Nat) : Int) := by omega
      by_cases hlo : c.toNat < 97
      · have q2 : ((c.toNat : Nat) : Int) < 97 := by omega
        have q3 : decide (((c.toNat : Nat) : Int) < 97) = true := decide_eq_true q2
        have HLO := Lib.hid hlo
        have HK := Lib.hid hks
        clear hlo
        go_wp2_with fail
        go_ret
        have hn := HD.out false ⟨(fun h => by cases h), fun h => by
          have h5 := h.2 k HK.out
          rw [HC.out] at h5
          have h6 := HLO.out
          omega⟩
        exact ⟨by rw [hn]; rfl, HB1.out⟩
      · have q2 : ¬ ((c.toNat : Nat) : Int) < 97 := by omega
        have q3 : decide (((c.toNat : Nat) : Int) < 97) = false := decide_eq_false q2
        by_cases hhi : 122 < c.toNat
        · have q4 : (122 : Int) < ((c.toNat : Nat) : Int) := by omega
          have q5 : decide ((122 : Int) < ((c.toNat : Nat) : Int)) = true := decide_eq_true q4
          have HHI := Lib.hid hhi
          have HK := Lib.hid hks
          clear hlo hhi
          go_wp2_with fail
          go_ret
          have hn := HD.out false ⟨(fun h => by cases h), fun h => by
            have h5 := h.2 k HK.out
            rw [HC.out] at h5
            have h6 := HHI.out
            omega⟩
          exact ⟨by rw [hn]; rfl, HB1.out⟩
        · have q4 : ¬ (122 : Int) < ((c.toNat : Nat) : Int) := by omega
          have q5 : decide ((122 : Int) < ((c.toNat : Nat) : Int)) = false := decide_eq_false q4
          have HLO : Hid (97 ≤ c.toNat ∧ c.toNat ≤ 122) := by rw [Hid]; omega
          clear hlo hhi
          go_wp2_with fail
          refine ⟨⟨k + 1, by omega, by go_num, fun j hj hjk => ?_, by trivial⟩, by simp [intOf]; omega⟩
          by_cases hjk' : j < k
          · exact HJ.out j hj hjk'
          · obtain rfl : j = k := by omega
            rw [HC.out]
            exact HLO.out
    · obtain rfl : k = s.size := by omega
      by_cases h1 : 1 ≤ s.size
      · have p1 : (1 : Int) ≤ ((s.size : Nat) : Int) := by omega
        have p2 : decide ((1 : Int) ≤ ((s.size : Nat) : Int)) = true := decide_eq_true p1
        by_cases h8 : s.size ≤ 8
        · have p3 : ((s.size : Nat) : Int) ≤ 8 := by omega
          have p4 : decide (((s.size : Nat) : Int) ≤ 8) = true := decide_eq_true p3
          go_wp2_with fail
          go_ret
          refine ⟨by rw [HD.out true ⟨fun _ => ⟨⟨h1, h8⟩, fun j hj => HJ.out j hj hj⟩, fun _ => rfl⟩]; rfl, HB1.out⟩
        · have p3 : ¬ ((s.size : Nat) : Int) ≤ 8 := by omega
          have p4 : decide (((s.size : Nat) : Int) ≤ 8) = false := decide_eq_false p3
          go_wp2_with fail
          go_ret
          refine ⟨by rw [HD.out false ⟨(fun h => by cases h), fun h => absurd h.1.2 h8⟩]; rfl, HB1.out⟩
      · have p1 : ¬ (1 : Int) ≤ ((s.size : Nat) : Int) := by omega
        have p2 : decide ((1 : Int) ≤ ((s.size : Nat) : Int)) = false := decide_eq_false p1
        go_wp2_with fail
        go_ret
        refine ⟨by rw [HD.out false ⟨(fun h => by cases h), fun h => absurd h.1.1 h1⟩]; rfl, HB1.out⟩

end Go.Proofs.YtljmklohgpaopaaGreatDoor

namespace Go.Proofs.YtljmklohgpaopaaGreatDoor
open Go.RowKit

/-- An int of 64 bits, of a number. -/
def sig (n : Nat) : Int := if n < 9223372036854775808 then (n : Int) else (n : Int) - 18446744073709551616
def vlV (v : Pl.Vl) : Value := .agg #[.int .i64 (v.ty : Nat), .int .i64 (sig v.n), .string (tstr v.s)]
theorem sig_zero {n : Nat} (h : n < 18446744073709551616) : (sig n == 0) = decide (n = 0) := by
  rw [Bool.eq_iff_iff, beq_iff_eq, decide_eq_true_iff]
  unfold sig
  split <;> omega

set_option maxHeartbeats 1000000 in
theorem isValue_any (ty : Int) (n : Int) (s : ByteArray) (w : World) (hs : s.size ≤ 140737488351232) :
    Calls Tryz.prog 196 #[.agg #[.int .i64 ty, .int .i64 n, .string s]] w fun e w' => e = .returned (.bool (if ty = 1 then s.data.toList.isEmpty else if ty = 2 then (decide (n = 0) && decide (s.size ≤ 16)) else false)) ∧ Below w.heap.size w w' := by
  obtain ⟨w1, hw1⟩ : ∃ w1, w.alloc (.cells #[.int .i64 ty, .int .i64 n, .string s] 122) = w1 := ⟨_, rfl⟩
  have hb1 : Below w.heap.size w w1 := by rw [← hw1]; exact (Below.refl _ _).alloc (Nat.le_refl _) _
  have B1 : Blk w1 w.heap.size 122 [.int .i64 ty, .int .i64 n, .string s] := by rw [← hw1]; exact Blk.new w 122 _
  have c0 : w1.cell? ⟨w.heap.size, 0, none⟩ = some (.int .i64 ty) := B1.cell 0
  have c1 : w1.cell? ⟨w.heap.size, 1, none⟩ = some (.int .i64 n) := B1.cell 1
  have c2 : w1.cell? ⟨w.heap.size, 2, none⟩ = some (.string s) := B1.cell 2
  have HB1 := Lib.hid hb1
  clear hb1 B1
  by_cases h1 : ty = 1
  · subst h1
    rw [if_pos rfl]
    go_enter Tryz.func196, Tryz.ntmps196
    go_wp2_with fail
    go_ret
    refine ⟨?_, HB1.out⟩
    rw [← ByteArray.toList_eq]
    rfl
  · rw [if_neg h1]
    have q1 : (ty == 1) = false := by simpa using h1
    by_cases h2 : ty = 2
    · subst h2
      rw [if_pos rfl]
      by_cases h3 : n = 0
      · subst h3
        have p3 : decide (((s.size : Nat) : Int) ≤ 16) = decide (s.size ≤ 16) := by rw [Bool.eq_iff_iff, decide_eq_true_iff, decide_eq_true_iff]; omega
        go_enter Tryz.func196, Tryz.ntmps196
        go_wp2_with fail
        go_ret
        refine ⟨?_, HB1.out⟩
        simp
      · have q3 : (n == 0) = false := by simpa using h3
        go_enter Tryz.func196, Tryz.ntmps196
        go_wp2_with fail
        go_ret
        refine ⟨?_, HB1.out⟩
        simp [h3]
    · rw [if_neg h2]
      have q2 : (ty == 2) = false := by simpa using h2
      go_enter Tryz.func196, Tryz.ntmps196
      go_wp2_with fail
      go_ret
      exact ⟨rfl, HB1.out⟩

set_option maxHeartbeats 1000000 in
theorem num8_any (g : Nat) (l : List UInt8) (bad : Bool) (w : World) (h : Rdr w g l bad) :
    Calls Tryz.prog 169 #[.pointer (some ⟨g, 0, none⟩), .int .i64 8] w fun e w' => e = .returned (.int .i64 (sig (Pl.num (l.take 8)))) ∧ Rdr w' g (l.drop 8) (bad || decide (l.length < 8)) ∧ w.grownBy w' (some g) := by
  have hlt := Pl.num_take_lt l 8
  have hp8 : (256 : Nat) ^ 8 = 18446744073709551616 := by decide
  rw [hp8] at hlt
  have hl8 : (l.take 8).length ≤ 8 := by rw [List.length_take]; omega
  obtain ⟨t, ht⟩ : ∃ t, l.take 8 = t := ⟨_, rfl⟩
  obtain ⟨v, hv⟩ : ∃ v, Pl.num t = v := ⟨_, rfl⟩
  have HT := Lib.hid ht
  have HV := Lib.hid hv
  rw [ht] at hl8 hlt ⊢
  rw [hv] at hlt ⊢
  have hw : IntKind.i64.wrap ((v : Nat) : Int) = sig v := by
    rw [IntKind.wrap_i64]
    unfold sig
    split <;> omega
  clear ht hv
  go_enter Tryz.func169, Tryz.ntmps169
  go_wp2_with fail
  refine (take_any g 8 l bad w h (by omega)).mono ?_
  rintro e w1 ⟨A, rfl, hb, hA, hR, hg⟩
  rw [HT.out] at hb ⊢
  go_wp2_with fail
  refine (get_any A _ t w1 hb hl8).mono ?_
  rintro e w' ⟨rfl, rfl⟩
  rw [HV.out]
  go_wp2_with fail
  go_ret
  exact ⟨rfl, hR, hg⟩

theorem tk_eq (n : Nat) (l : List UInt8) : Pl.tk n l = if l.length < n then none else some (l.take n, l.drop n) := by
  unfold Pl.tk
  by_cases h : l.length < n
  · rw [if_pos h, if_neg (by omega)]
  · rw [if_neg h, if_pos (by omega)]
theorem pShort_eq (l : List UInt8) : Pl.pShort l = if l.length < 1 ∨ (l.drop 1).length < Pl.num (l.take 1) then none else some ((l.drop 1).take (Pl.num (l.take 1)), (l.drop 1).drop (Pl.num (l.take 1))) := by
  unfold Pl.pShort
  rw [tk_eq]
  by_cases h : l.length < 1
  · rw [if_pos h, if_pos (.inl h)]; rfl
  · rw [if_neg h]
    show Pl.tk (Pl.num (l.take 1)) (l.drop 1) = _
    rw [tk_eq]
    by_cases h2 : (l.drop 1).length < Pl.num (l.take 1)
    · rw [if_pos h2, if_pos (.inr h2)]
    · rw [if_neg h2, if_neg (by rintro (e | e) <;> contradiction)]
theorem pName_eq (l : List UInt8) : Pl.pName l = if (l.length < 1 ∨ (l.drop 1).length < Pl.num (l.take 1)) ∨ ¬ Pl.NameOk ((l.drop 1).take (Pl.num (l.take 1))) then none else some ((l.drop 1).take (Pl.num (l.take 1)), (l.drop 1).drop (Pl.num (l.take 1))) := by
  unfold Pl.pName
  rw [pShort_eq]
  by_cases h : l.length < 1 ∨ (l.drop 1).length < Pl.num (l.take 1)
  · rw [if_pos h, if_pos (.inl h)]; rfl
  · rw [if_neg h]
    show (if Pl.NameOk _ then _ else _) = _
    by_cases h2 : Pl.NameOk ((l.drop 1).take (Pl.num (l.take 1)))
    · rw [if_pos h2, if_neg (by rintro (e | e) <;> contradiction)]
    · rw [if_neg h2, if_pos (.inr h2)]
/-- What a parser of the Reader leaves: a value, what is left, bad. -/
def Rd {α : Type} (o : Option (α × List UInt8)) (g : Nat) (bad : Bool) (x : α) (w w' : World) : Prop :=
  ∃ l' bad', Rdr w' g l' bad' ∧ bad' = (bad || o.isNone) ∧ (∀ y r, o = some (y, r) → x = y ∧ l' = r) ∧ Only (· = g) w w'

set_option maxHeartbeats 1000000 in
theorem name_any (g : Nat) (l : List UInt8) (bad : Bool) (w : World) (h : Rdr w g l bad) :
    Calls Tryz.prog 189 #[.pointer (some ⟨g, 0, none⟩)] w fun e w' => ∃ nm, e = .returned (.string (tstr nm)) ∧ nm.length ≤ 255 ∧ Rd (Pl.pName l) g bad nm w w' := by
  have hn := Pl.num_take_lt l 1
  have hpe := pName_eq l
  obtain ⟨n, hnn⟩ : ∃ n, Pl.num (l.take 1) = n := ⟨_, rfl⟩
  obtain ⟨l1, hl1⟩ : ∃ l1, l.drop 1 = l1 := ⟨_, rfl⟩
  obtain ⟨nm, hnm⟩ : ∃ nm, l1.take n = nm := ⟨_, rfl⟩
  have HNUM := Lib.hid (num_any g 1 l bad w h (by omega))
  rw [hnn, hl1] at HNUM hpe
  rw [hnn] at hn
  have hnl : nm.length ≤ 255 := by rw [← hnm, List.length_take]; omega
  rw [hnm] at hpe
  have HPE := Lib.hid hpe
  have HNM := Lib.hid hnm
  have hts : (tstr nm).data.toList = nm := rfl
  clear hpe hnm
  go_enter Tryz.func189, Tryz.ntmps189
  go_wp2_with fail
  refine HNUM.out.mono ?_
  rintro e w1 ⟨rfl, hR1, hg1⟩
  have HTK := Lib.hid (take_any g n l1 _ w1 hR1 (by omega))
  have HO1 := Lib.hid (Only.of_grown hg1)
  clear hR1 hg1
  go_wp2_with fail
  refine HTK.out.mono ?_
  rintro e w2 ⟨A, rfl, hb2, hA2, hR2, hg2⟩
  rw [HNM.out] at hb2
  have HO2 := Lib.hid (HO1.out.trans' (Only.of_grown hg2))
  have HR2 := Lib.hid hR2
  have hcv := run_tostr w2 A nm nm.length hb2
  rw [HNM.out]
  have HIS := Lib.hid (isName_any (tstr nm) w2 (by rw [tstr_size]; omega))
  clear hb2 hA2 hR2 hg2
  go_wp2_with fail
  refine HIS.out.mono ?_
  rintro e w3 ⟨rfl, hb3⟩
  have HMU := Lib.hid (must_any g _ _ (decide (Pl.NameOk (tstr nm).data.toList)) w3 (HR2.out.below hb3))
  have HO3 := Lib.hid (HO2.out.below hb3)
  clear hb3 hcv
  go_wp2_with fail
  refine HMU.out.mono ?_
  rintro e w4 ⟨rfl, hR4, ho4⟩
  have HO4 := Lib.hid (HO3.out.trans' ho4)
  have HR4 := Lib.hid hR4
  clear hR4 ho4
  go_wp2_with fail
  go_ret
  refine ⟨nm, rfl, hnl, _, _, HR4.out, ?_, ?_, HO4.out⟩
  · rw [HPE.out, hts]
    by_cases c1 : l.length < 1
    · simp [c1]
    · by_cases c2 : l1.length < n
      · simp [c2]
      · by_cases c3 : Pl.NameOk nm
        · simp [c1, c2, c3]
        · simp [c3]
  · intro y r hy
    rw [HPE.out] at hy
    split at hy
    · cases hy
    · injection hy with hy
      injection hy with h1 h2
      exact ⟨h1, h2⟩
end Go.Proofs.YtljmklohgpaopaaGreatDoor

namespace Go.Proofs.YtljmklohgpaopaaGreatDoor
open Go.RowKit Go.Extern.Stop Go.Stop Go.Extern

theorem Tryz.elemOfPP (w : World) : (Rtype.elem? 214).run Tryz.prog w = .ok (some 212) w := by kernel_rfl
theorem Tryz.mkP (p : Addr) (w : World) : (ReflectliteValue.mk 212 p ReflectliteValue.flagAddr).run Tryz.prog w = .ok (.agg #[.pointer (some ⟨2, 212, none⟩), .pointer (some p), .int .u64 406]) w := by kernel_rfl
theorem Tryz.elemVPP (a p : Addr) (W : World) (ha : W.cell? a = some (.pointer (some p))) :
    (ReflectliteValue.method (ReflectliteValue.valueError "reflectlite.Value.Elem" 0) ReflectliteValue.elem #[.agg #[.pointer (some ⟨2, 214, none⟩), .pointer (some a), .int .u64 150]]).run Tryz.prog W
      = .ok (.agg #[.pointer (some ⟨2, 212, none⟩), .pointer (some p), .int .u64 406]) W := by
  rw [rlm]
  simp only [Sem.run_bind, Tryz.partsPP, Result.andThen]
  simp [ReflectliteValue.elem, loadVar, isAgg, underlying, Tryz.underlying214, ha, Result.andThen, Tryz.elemOfPP, Tryz.mkP]
theorem rls (v x : Value) : ReflectliteValue.set #[v, x] = (do
    let (some (dst, a, fl), some (src, b, _)) := (← ReflectliteValue.parts v, ← ReflectliteValue.parts x)
      | unsupported (.noEntry "extern/(internal/reflectlite.Value).Set.zeroValue")
    if fl / ReflectliteValue.flagAddr % 2 == 0 then unsupported (.noEntry "extern/(internal/reflectlite.Value).Set.unaddressable")
    let val ← loadVar src b
    if ← Rtype.directlyAssignable dst src then storeVar dst a val
    else if ← Rtype.implements dst src then
      if (← Rtype.kind src) == 20 then
        match val with
        | .nilIface => unsupported (.noEntry "extern/reflectlite: a nil value of one interface type handed on as a value of another")
        | _ => storeVar dst a val
      else storeVar dst a (.iface src val)
    else panicString ("reflectlite.Set: value of type " ++ (← Rtype.spelt src) ++ " is not assignable to type " ++ (← Rtype.spelt dst))
    pure (.tuple #[])) := rfl
theorem Tryz.partsPa (a : Addr) (w : World) : (ReflectliteValue.parts (.agg #[.pointer (some ⟨2, 212, none⟩), .pointer (some a), .int .u64 406])).run Tryz.prog w = .ok (some (212, a, 406)) w := by kernel_rfl
theorem Tryz.partsP (a : Addr) (w : World) : (ReflectliteValue.parts (.agg #[.pointer (some ⟨2, 212, none⟩), .pointer (some a), .int .u64 150])).run Tryz.prog w = .ok (some (212, a, 150)) w := by kernel_rfl
theorem Tryz.directP (w : World) : (Rtype.directlyAssignable 212 212).run Tryz.prog w = .ok true w := by kernel_rfl
theorem Tryz.setP (ta b e : Addr) (old : Value) (W : World) (hb : W.cell? b = some (.pointer (some e))) (ht : W.cell? ta = some old) (hf : W.frozen? ta = false) :
    (ReflectliteValue.set #[.agg #[.pointer (some ⟨2, 212, none⟩), .pointer (some ta), .int .u64 406], .agg #[.pointer (some ⟨2, 212, none⟩), .pointer (some b), .int .u64 150]]).run Tryz.prog W
      = .ok (.tuple #[]) (W.setCell ta (.pointer (some e))) := by
  rw [rls]
  simp only [Sem.run_bind, Tryz.partsPa, Tryz.partsP, Result.andThen]
  simp [ReflectliteValue.flagAddr, loadVar, isAgg, underlying, Tryz.underlying212, hb, Result.andThen, Tryz.directP, storeVar, Value.cells, storeCells, Addr.add]
  rw [run_store Tryz.prog W ta _ _ (by rfl)]
  simp [ht, hf]

theorem Tryz.elemOfPK (w : World) : (Rtype.elem? 217).run Tryz.prog w = .ok (some 26) w := by kernel_rfl
theorem Tryz.mkK (p : Addr) (w : World) : (ReflectliteValue.mk 26 p ReflectliteValue.flagAddr).run Tryz.prog w = .ok (.agg #[.pointer (some ⟨2, 26, none⟩), .pointer (some p), .int .u64 386]) w := by kernel_rfl
theorem Tryz.elemVPK (a p : Addr) (W : World) (ha : W.cell? a = some (.pointer (some p))) :
    (ReflectliteValue.method (ReflectliteValue.valueError "reflectlite.Value.Elem" 0) ReflectliteValue.elem #[.agg #[.pointer (some ⟨2, 217, none⟩), .pointer (some a), .int .u64 150]]).run Tryz.prog W
      = .ok (.agg #[.pointer (some ⟨2, 26, none⟩), .pointer (some p), .int .u64 386]) W := by
  rw [rlm]
  simp only [Sem.run_bind, Tryz.partsPK, Result.andThen]
  simp [ReflectliteValue.elem, loadVar, isAgg, underlying, Tryz.underlying217, ha, Result.andThen, Tryz.elemOfPK, Tryz.mkK]
theorem Tryz.partsKa (a : Addr) (w : World) : (ReflectliteValue.parts (.agg #[.pointer (some ⟨2, 26, none⟩), .pointer (some a), .int .u64 386])).run Tryz.prog w = .ok (some (26, a, 386)) w := by kernel_rfl
theorem Tryz.partsK (a : Addr) (w : World) : (ReflectliteValue.parts (.agg #[.pointer (some ⟨2, 26, none⟩), .pointer (some a), .int .u64 130])).run Tryz.prog w = .ok (some (26, a, 130)) w := by kernel_rfl
theorem Tryz.directK (w : World) : (Rtype.directlyAssignable 26 26).run Tryz.prog w = .ok true w := by kernel_rfl
theorem Tryz.setK (ta b : Addr) (k : Int) (old : Value) (W : World) (hb : W.cell? b = some (.int .i64 k)) (ht : W.cell? ta = some old) (hf : W.frozen? ta = false) :
    (ReflectliteValue.set #[.agg #[.pointer (some ⟨2, 26, none⟩), .pointer (some ta), .int .u64 386], .agg #[.pointer (some ⟨2, 26, none⟩), .pointer (some b), .int .u64 130]]).run Tryz.prog W
      = .ok (.tuple #[]) (W.setCell ta (.int .i64 k)) := by
  rw [rls]
  simp only [Sem.run_bind, Tryz.partsKa, Tryz.partsK, Result.andThen]
  simp [ReflectliteValue.flagAddr, loadVar, isAgg, underlying, Tryz.underlying26, hb, Result.andThen, Tryz.directK, storeVar, Value.cells, storeCells, Addr.add]
  rw [run_store Tryz.prog W ta _ _ (by rfl)]
  simp [ht, hf]

/-! what errors.as's assertions find at a Kind -/
theorem Tryz.noAsK (v : Value) (xT : TypeId) (w : World) : (Instr.typeAssert (.iface 26 v) xT 305 true).run Tryz.prog w = .ok (.tuple #[.nilIface, .bool false]) w := run_typeAssert_lacksB Tryz.underlying305 (by kernel_rfl) (by kernel_rfl) v xT w
theorem Tryz.noUnwrapK (v : Value) (xT : TypeId) (w : World) : (Instr.typeAssert (.iface 26 v) xT 277 true).run Tryz.prog w = .ok (.tuple #[.nilIface, .bool false]) w := run_typeAssert_lacksB Tryz.underlying277 (by kernel_rfl) (by kernel_rfl) v xT w
theorem Tryz.noUnwrapsK (v : Value) (xT : TypeId) (w : World) : (Instr.typeAssert (.iface 26 v) xT 278 true).run Tryz.prog w = .ok (.tuple #[.nilIface, .bool false]) w := run_typeAssert_lacksB Tryz.underlying278 (by kernel_rfl) (by kernel_rfl) v xT w

theorem x123 (args : Array Value) (w : World) : (callFunc 154 args).run Tryz.prog w = (((fun args => ReflectliteValue.unpack (args.getD 0 (.tuple #[]))) args : Sem Value).run Tryz.prog w).andThen fun v w' => .ok (.value v) w' :=
  @run_callFunc_extern Tryz.prog 154 _ (fun args => ReflectliteValue.unpack (args.getD 0 (.tuple #[]))) Tryz.func154 (by kernel_rfl) (by kernel_rfl) (by kernel_rfl) (by kernel_rfl) args w
theorem x124 (args : Array Value) (w : World) : (callFunc 155 args).run Tryz.prog w = (((ReflectliteValue.methodAny (ReflectliteValue.valueError "reflectlite.Value.Type" 0) (fun t _ _ _ => ReflectliteType.toType t)) args : Sem Value).run Tryz.prog w).andThen fun v w' => .ok (.value v) w' :=
  @run_callFunc_extern Tryz.prog 155 _ (ReflectliteValue.methodAny (ReflectliteValue.valueError "reflectlite.Value.Type" 0) (fun t _ _ _ => ReflectliteType.toType t)) Tryz.func155 (by kernel_rfl) (by kernel_rfl) (by kernel_rfl) (by kernel_rfl) args w
theorem x125 (args : Array Value) (w : World) : (callFunc 156 args).run Tryz.prog w = (((ReflectliteValue.method (ReflectliteValue.valueError "reflectlite.Value.IsNil" 0) ReflectliteValue.isNil) args : Sem Value).run Tryz.prog w).andThen fun v w' => .ok (.value v) w' :=
  @run_callFunc_extern Tryz.prog 156 _ (ReflectliteValue.method (ReflectliteValue.valueError "reflectlite.Value.IsNil" 0) ReflectliteValue.isNil) Tryz.func156 (by kernel_rfl) (by kernel_rfl) (by kernel_rfl) (by kernel_rfl) args w
theorem x146 (args : Array Value) (w : World) : (callFunc 211 args).run Tryz.prog w = (((ReflectliteType.abiMethod fun t => do pure (.int .u8 (← Rtype.kind t))) args : Sem Value).run Tryz.prog w).andThen fun v w' => .ok (.value v) w' :=
  @run_callFunc_extern Tryz.prog 211 _ (ReflectliteType.abiMethod fun t => do pure (.int .u8 (← Rtype.kind t))) Tryz.func211 (by kernel_rfl) (by kernel_rfl) (by kernel_rfl) (by kernel_rfl) args w
theorem x162 (args : Array Value) (w : World) : (callFunc 227 args).run Tryz.prog w = (((ReflectliteType.method ReflectliteType.elem) args : Sem Value).run Tryz.prog w).andThen fun v w' => .ok (.value v) w' :=
  @run_callFunc_extern Tryz.prog 227 _ (ReflectliteType.method ReflectliteType.elem) Tryz.func227 (by kernel_rfl) (by kernel_rfl) (by kernel_rfl) (by kernel_rfl) args w
theorem x163 (args : Array Value) (w : World) : (callFunc 228 args).run Tryz.prog w = (((ReflectliteType.relation "Implements" ReflectliteType.implements_) args : Sem Value).run Tryz.prog w).andThen fun v w' => .ok (.value v) w' :=
  @run_callFunc_extern Tryz.prog 228 _ (ReflectliteType.relation "Implements" ReflectliteType.implements_) Tryz.func228 (by kernel_rfl) (by kernel_rfl) (by kernel_rfl) (by kernel_rfl) args w
theorem x99 (args : Array Value) (w : World) : (callFunc 112 args).run Tryz.prog w = ((ReflectliteType.typeOf args : Sem Value).run Tryz.prog w).andThen fun v w' => .ok (.value v) w' :=
  @run_callFunc_extern Tryz.prog 112 _ ReflectliteType.typeOf Tryz.func112 (by kernel_rfl) (by kernel_rfl) (by kernel_rfl) (by kernel_rfl) args w
theorem x160 (args : Array Value) (w : World) : (callFunc 225 args).run Tryz.prog w = (((ReflectliteType.relation "AssignableTo" ReflectliteType.assignableTo) args : Sem Value).run Tryz.prog w).andThen fun v w' => .ok (.value v) w' :=
  @run_callFunc_extern Tryz.prog 225 _ (ReflectliteType.relation "AssignableTo" ReflectliteType.assignableTo) Tryz.func225 (by kernel_rfl) (by kernel_rfl) (by kernel_rfl) (by kernel_rfl) args w
theorem x129 (args : Array Value) (w : World) : (callFunc 181 args).run Tryz.prog w = (((ReflectliteValue.method (ReflectliteValue.valueError "reflectlite.Value.Elem" 0) ReflectliteValue.elem) args : Sem Value).run Tryz.prog w).andThen fun v w' => .ok (.value v) w' :=
  @run_callFunc_extern Tryz.prog 181 _ (ReflectliteValue.method (ReflectliteValue.valueError "reflectlite.Value.Elem" 0) ReflectliteValue.elem) Tryz.func181 (by kernel_rfl) (by kernel_rfl) (by kernel_rfl) (by kernel_rfl) args w
theorem x130 (args : Array Value) (w : World) : (callFunc 182 args).run Tryz.prog w = ((ReflectliteValue.set args : Sem Value).run Tryz.prog w).andThen fun v w' => .ok (.value v) w' :=
  @run_callFunc_extern Tryz.prog 182 _ ReflectliteValue.set Tryz.func182 (by kernel_rfl) (by kernel_rfl) (by kernel_rfl) (by kernel_rfl) args w

end Go.Proofs.YtljmklohgpaopaaGreatDoor

namespace Go.Proofs.YtljmklohgpaopaaGreatDoor
open Go.RowKit Go.Extern.Stop Go.Stop Go.Extern


set_option maxHeartbeats 4000000 in
set_option maxRecDepth 100000 in
theorem as_P_hit (e : Addr) (g : Nat) (old : Value) (w : World) (hG : GE w) (hb : Blk w g 212 [old]) :
    Calls Tryz.prog 111 #[.iface 212 (.pointer (some e)), .iface 214 (.pointer (some ⟨g, 0, none⟩))] w fun ev w' => ev = .returned (.bool true) ∧ w.grownBy w' (some g) ∧ Blk w' g 212 [.pointer (some e)] := by
  have hlt : g < w.heap.size := hb.lt
  have h0 : w.cell? ⟨1, 0, none⟩ = some (.iface 272 (.agg #[.pointer (some ⟨2, 83, none⟩)])) := hG
  have hlt0 := World.block_lt_of_cell? w _ h0
  dsimp only at hlt0
  have hlt1 : 0 < w.heap.size := by omega
  have hlt2 : 1 < w.heap.size + 1 := by omega
  have hlt3 : 1 < w.heap.size + 1 + 1 := by omega
  have hz := World.block_lt_of_cell? _ _ h0
  have y1 := x123
  have y2 := x124
  have y3 := x125
  have y4 := x146
  have y5 := x162
  have y6 := x163
  have y7 := x99
  have y8 := x160
  have y9 := x129
  have y10 := x130
  have f1 := Tryz.valueOfPP
  have f2 := Tryz.typePP
  have f3 := Tryz.methodKind
  have f4 := Tryz.kindPP
  have f5 := Tryz.kindP
  have f6 := Tryz.methodElem
  have f7 := Tryz.methodImplements
  have f8 := Tryz.methodAssignableTo
  have f9 := Tryz.elemPP
  have f10 := Tryz.implementsP
  have f11 := Tryz.typeOfP
  have f12 := Tryz.assignablePP
  have f13 := Tryz.valueOfP
  have f14 := Tryz.isNilPP
  have el := Tryz.elemVPP ⟨w.heap.size, 0, none⟩ ⟨g, 0, none⟩ (((w.alloc (.cells #[.pointer (some ⟨g, 0, none⟩)] 214)).alloc (.cells #[.pointer (some ⟨2, 214, none⟩), .pointer (some ⟨w.heap.size, 0, none⟩), .int .u64 150] 264)).alloc (.cells #[.pointer (some ⟨2, 214, none⟩), .pointer (some ⟨w.heap.size, 0, none⟩), .int .u64 150] 264))
    (by rw [World.cell?_alloc_lt _ _ ⟨w.heap.size, 0, none⟩ (by simp; omega), World.cell?_alloc_lt _ _ ⟨w.heap.size, 0, none⟩ (by simp)]; simp)
  have st := Tryz.setP ⟨g, 0, none⟩ ⟨w.heap.size + 1 + 1 + 1, 0, none⟩ e old ((((w.alloc (.cells #[.pointer (some ⟨g, 0, none⟩)] 214)).alloc (.cells #[.pointer (some ⟨2, 214, none⟩), .pointer (some ⟨w.heap.size, 0, none⟩), .int .u64 150] 264)).alloc (.cells #[.pointer (some ⟨2, 214, none⟩), .pointer (some ⟨w.heap.size, 0, none⟩), .int .u64 150] 264)).alloc (.cells #[.pointer (some e)] 212))
    (by rw [World.cell?_alloc_at _ _ _ _ (by simp)]; rfl)
    (by rw [((((hb.alloc _).alloc _).alloc _).alloc _).cell 0]; rfl)
    (((((hb.alloc _).alloc _).alloc _).alloc _).frozen 0)
  have hc := hb.cell 0
  have hf := hb.frozen 0
  simp only [List.getElem?_cons_zero] at hc
  go_enter Tryz.func111, Tryz.ntmps111
  go_wp2
  refine wp_loop_rounds 1 ?_
  rw [rounds_succ]
  go_wp2
  go_ret
  exact ⟨rfl, only_setCell (only_alloc (only_alloc (only_alloc (only_alloc (World.grownBy.refl w _) _) _) _) _) (.inl rfl) _, ((((hb.alloc _).alloc _).alloc _).alloc _).set_ 0 _⟩


set_option maxHeartbeats 4000000 in
set_option maxRecDepth 100000 in
theorem as_K_hit (k : Int) (g : Nat) (old : Value) (w : World) (hG : GE w) (hb : Blk w g 26 [old]) :
    Calls Tryz.prog 111 #[.iface 26 (.int .i64 k), .iface 217 (.pointer (some ⟨g, 0, none⟩))] w fun ev w' => ev = .returned (.bool true) ∧ w.grownBy w' (some g) ∧ Blk w' g 26 [.int .i64 k] := by
  have hlt : g < w.heap.size := hb.lt
  have h0 : w.cell? ⟨1, 0, none⟩ = some (.iface 272 (.agg #[.pointer (some ⟨2, 83, none⟩)])) := hG
  have hlt0 := World.block_lt_of_cell? w _ h0
  dsimp only at hlt0
  have hlt1 : 0 < w.heap.size := by omega
  have hlt2 : 1 < w.heap.size + 1 := by omega
  have hlt3 : 1 < w.heap.size + 1 + 1 := by omega
  have hz := World.block_lt_of_cell? _ _ h0
  have y1 := x123
  have y2 := x124
  have y3 := x125
  have y4 := x146
  have y5 := x162
  have y6 := x163
  have y7 := x99
  have y8 := x160
  have y9 := x129
  have y10 := x130
  have f1 := Tryz.valueOfPK
  have f2 := Tryz.typePK
  have f3 := Tryz.methodKind
  have f4 := Tryz.kindPK
  have f5 := Tryz.kindK
  have f6 := Tryz.methodElem
  have f7 := Tryz.methodImplements
  have f8 := Tryz.methodAssignableTo
  have f9 := Tryz.elemPK
  have f10 := Tryz.implementsK
  have f11 := Tryz.typeOfK
  have f12 := Tryz.assignableKK
  have f13 := Tryz.valueOfK
  have f14 := Tryz.isNilPK
  have el := Tryz.elemVPK ⟨w.heap.size, 0, none⟩ ⟨g, 0, none⟩ (((w.alloc (.cells #[.pointer (some ⟨g, 0, none⟩)] 217)).alloc (.cells #[.pointer (some ⟨2, 217, none⟩), .pointer (some ⟨w.heap.size, 0, none⟩), .int .u64 150] 264)).alloc (.cells #[.pointer (some ⟨2, 217, none⟩), .pointer (some ⟨w.heap.size, 0, none⟩), .int .u64 150] 264))
    (by rw [World.cell?_alloc_lt _ _ ⟨w.heap.size, 0, none⟩ (by simp; omega), World.cell?_alloc_lt _ _ ⟨w.heap.size, 0, none⟩ (by simp)]; simp)
  have st := Tryz.setK ⟨g, 0, none⟩ ⟨w.heap.size + 1 + 1 + 1, 0, none⟩ k old ((((w.alloc (.cells #[.pointer (some ⟨g, 0, none⟩)] 217)).alloc (.cells #[.pointer (some ⟨2, 217, none⟩), .pointer (some ⟨w.heap.size, 0, none⟩), .int .u64 150] 264)).alloc (.cells #[.pointer (some ⟨2, 217, none⟩), .pointer (some ⟨w.heap.size, 0, none⟩), .int .u64 150] 264)).alloc (.cells #[.int .i64 k] 26))
    (by rw [World.cell?_alloc_at _ _ _ _ (by simp)]; rfl)
    (by rw [((((hb.alloc _).alloc _).alloc _).alloc _).cell 0]; rfl)
    (((((hb.alloc _).alloc _).alloc _).alloc _).frozen 0)
  have hc := hb.cell 0
  have hf := hb.frozen 0
  simp only [List.getElem?_cons_zero] at hc
  go_enter Tryz.func111, Tryz.ntmps111
  go_wp2
  refine wp_loop_rounds 1 ?_
  rw [rounds_succ]
  go_wp2
  go_ret
  exact ⟨rfl, only_setCell (only_alloc (only_alloc (only_alloc (only_alloc (World.grownBy.refl w _) _) _) _) _) (.inl rfl) _, ((((hb.alloc _).alloc _).alloc _).alloc _).set_ 0 _⟩


set_option maxHeartbeats 4000000 in
set_option maxRecDepth 100000 in
theorem as_K_miss (k : Int) (g : Nat) (old : Value) (w : World) (hG : GE w) (hb : Blk w g 212 [old]) :
    Calls Tryz.prog 111 #[.iface 26 (.int .i64 k), .iface 214 (.pointer (some ⟨g, 0, none⟩))] w fun ev w' => ev = .returned (.bool false) ∧ Below w.heap.size w w' := by
  have hlt : g < w.heap.size := hb.lt
  have h0 : w.cell? ⟨1, 0, none⟩ = some (.iface 272 (.agg #[.pointer (some ⟨2, 83, none⟩)])) := hG
  have hlt0 := World.block_lt_of_cell? w _ h0
  dsimp only at hlt0
  have hlt1 : 0 < w.heap.size := by omega
  have hlt2 : 1 < w.heap.size + 1 := by omega
  have hlt3 : 1 < w.heap.size + 1 + 1 := by omega
  have hz := World.block_lt_of_cell? _ _ h0
  have y1 := x123
  have y2 := x124
  have y3 := x125
  have y4 := x146
  have y5 := x162
  have y6 := x163
  have y7 := x99
  have y8 := x160
  have y9 := x129
  have y10 := x130
  have f1 := Tryz.valueOfPP
  have f2 := Tryz.typePP
  have f3 := Tryz.methodKind
  have f4 := Tryz.kindPP
  have f5 := Tryz.kindP
  have f6 := Tryz.methodElem
  have f7 := Tryz.methodImplements
  have f8 := Tryz.methodAssignableTo
  have f9 := Tryz.elemPP
  have f10 := Tryz.implementsP
  have f11 := Tryz.typeOfK
  have f12 := Tryz.assignableKP
  have n1 := Tryz.noAsK
  have n2 := Tryz.noUnwrapK
  have n3 := Tryz.noUnwrapsK
  have f14 := Tryz.isNilPP
  have hc := hb.cell 0
  have hf := hb.frozen 0
  simp only [List.getElem?_cons_zero] at hc
  go_enter Tryz.func111, Tryz.ntmps111
  go_wp2
  refine wp_loop_rounds 1 ?_
  rw [rounds_succ]
  go_wp2
  go_ret
  exact ⟨rfl, (((Below.refl _ _).alloc (Nat.le_refl _) _).alloc (by simp) _).alloc (by simp; omega) _⟩

end Go.Proofs.YtljmklohgpaopaaGreatDoor
