/- Plain facts on sums and checks: no program in sight. -/
import Derived.WalkKit
namespace Go.Proofs.YtljmklohgpaopaaDoor
namespace Pl

def sumStep (h : Nat) (c : UInt8) : Nat := (h * 33 + c.toNat + 1) % 4294967291
def sumN (l : List UInt8) : Nat := l.foldl sumStep 5381

theorem sumStep_lt (h : Nat) (c : UInt8) : sumStep h c < 4294967291 := Nat.mod_lt _ (by decide)
theorem foldl_lt (l : List UInt8) : ∀ h, h < 4294967291 → l.foldl sumStep h < 4294967291 := by
  induction l with
  | nil => intro h hh; exact hh
  | cons c r ih => intro h _; exact ih _ (sumStep_lt h c)
theorem sumN_lt (l : List UInt8) : sumN l < 4294967291 := foldl_lt l _ (by decide)
theorem sumN_snoc (l : List UInt8) (c : UInt8) : sumN (l ++ [c]) = sumStep (sumN l) c := by simp [sumN]

def bitStep (v : Nat) : Nat := if v % 2 = 1 then v / 2 ^^^ 3988292384 else v / 2
def bitN : Nat → Nat → Nat
  | 0, v => v
  | n + 1, v => bitStep (bitN n v)
def byOne (v : Nat) : Nat := bitN 8 v
theorem bitStep_lt {v : Nat} (h : v < 4294967296) : bitStep v < 4294967296 := by
  unfold bitStep
  split
  · exact Nat.xor_lt_two_pow (n := 32) (by omega) (by decide)
  · omega
theorem bitN_lt {v : Nat} (h : v < 4294967296) (n : Nat) : bitN n v < 4294967296 := by
  induction n with
  | zero => exact h
  | succ n ih => exact bitStep_lt ih
def checkStep (v : Nat) (c : UInt8) : Nat := byOne (v ^^^ c.toNat)
def checkN (l : List UInt8) : Nat := l.foldl checkStep 4294967295
theorem checkStep_lt {v : Nat} (h : v < 4294967296) (c : UInt8) : checkStep v c < 4294967296 :=
  bitN_lt (Nat.xor_lt_two_pow (n := 32) h (by have := c.toNat_lt; omega)) 8
theorem checkN_snoc (l : List UInt8) (c : UInt8) : checkN (l ++ [c]) = checkStep (checkN l) c := by simp [checkN]
theorem check_foldl_lt (l : List UInt8) : ∀ h, h < 4294967296 → l.foldl checkStep h < 4294967296 := by
  induction l with
  | nil => intro h hh; exact hh
  | cons c r ih => intro h hh; exact ih _ (checkStep_lt hh c)
theorem checkN_lt (l : List UInt8) : checkN l < 4294967296 := check_foldl_lt l _ (by decide)

/-- A number in so many bytes, the highest first. -/
def be : Nat → Nat → List UInt8
  | 0, _ => []
  | k + 1, v => UInt8.ofNat (v / 256 ^ k) :: be k v
theorem be_length (k v : Nat) : (be k v).length = k := by induction k with | zero => rfl | succ k ih => simp [be, ih]
def hashText (n : Nat) : List UInt8 := be 4 n
theorem hashText_eq (n : Nat) : hashText n = [UInt8.ofNat (n / 16777216), UInt8.ofNat (n / 65536), UInt8.ofNat (n / 256), UInt8.ofNat n] := by
  simp [hashText, be]

end Pl
end Go.Proofs.YtljmklohgpaopaaDoor
