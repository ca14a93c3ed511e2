/- Plain facts on headers and what leads from one to another: no program in sight. -/
import Derived.Test.YtljmklohgpaopaaDoorPlainTree
namespace Go.Proofs.YtljmklohgpaopaaDoor
namespace Pl

theorem be_get (s x j : Nat) (h : j < s) : (be s x)[j]? = some (UInt8.ofNat (x / 256 ^ (s - 1 - j))) := by
  induction s generalizing j with
  | zero => omega
  | succ s ih =>
    match j with
    | 0 => simp [be]
    | j + 1 =>
      rw [be, List.getElem?_cons_succ, ih j (by omega)]
      congr 4
      omega
theorem be_take_succ (s x j : Nat) (h : j < s) : (be s x).take (j + 1) = (be s x).take j ++ [UInt8.ofNat (x / 256 ^ (s - 1 - j))] := by
  have hl : j < (be s x).length := by rw [be_length]; exact h
  rw [List.take_succ_eq_append_getElem hl]
  have := be_get s x j h
  rw [List.getElem?_eq_getElem hl] at this
  rw [Option.some.inj this]

/-- A header: its block, the hash ahead, the root. -/
def header (b h r : Nat) : List UInt8 := 66 :: (be 4 b ++ be 4 h ++ be 4 r)
theorem header_length (b h r : Nat) : (header b h r).length = 13 := by simp [header, be_length]
/-- Where headers lead. -/
def heads (b h : Nat) (l : List UInt8) : Option Nat :=
  if hl : l.length < 13 then some h
  else if b < 4294967296 ∧ l.take 9 = 66 :: (be 4 b ++ be 4 h) then heads (b + 1) (sumN (l.take 13)) (l.drop 13)
  else none
termination_by l.length
decreasing_by rw [List.length_drop]; omega
theorem heads_short (b h : Nat) (l : List UInt8) (hl : l.length < 13) : heads b h l = some h := by rw [heads]; simp [hl]
theorem heads_go (b h : Nat) (l : List UInt8) (hl : 13 ≤ l.length) (hb : b < 4294967296) (he : l.take 9 = 66 :: (be 4 b ++ be 4 h)) : heads b h l = heads (b + 1) (sumN (l.take 13)) (l.drop 13) := by
  rw [heads, dif_neg (by omega), if_pos ⟨hb, he⟩]
theorem heads_bad (b h : Nat) (l : List UInt8) (hl : 13 ≤ l.length) (hn : ¬ (b < 4294967296 ∧ l.take 9 = 66 :: (be 4 b ++ be 4 h))) : heads b h l = none := by
  rw [heads, dif_neg (by omega), if_neg hn]
/-- Does a proof lead from one digest to another? -/
def extends_ (old : Int) (h : Nat) (to : Int) (g : Nat) (l : List UInt8) : Bool :=
  if old < 0 ∨ (old = 0 ∧ h ≠ 0) ∨ to < old ∨ l.length % 13 ≠ 0 ∨ ((l.length / 13 : Nat) : Int) ≠ to - old then false else heads (old.toNat + 1) h l == some g
end Pl
end Go.Proofs.YtljmklohgpaopaaDoor
