/- The walk of sums.Sum. -/
import Derived.Test.YtljmklohgpaopaaDoorProg
import Derived.Test.YtljmklohgpaopaaDoorPlain
import Derived.WalkLawsBesides
import Derived.WalkSpells
namespace Go.Proofs.YtljmklohgpaopaaDoor
open Go.RowKit

/-- The slice value leads to these bytes (the first 'len' of its cells). -/
def BytesAt (w : World) (A : Option Addr) (l : List UInt8) : Prop :=
  l = [] ∨ ∃ b off, A = some ⟨b, off, none⟩ ∧ ∀ i, (h : i < l.length) → w.cell? ⟨b, off + i, none⟩ = some (.int .u8 (l[i].toNat : Int))

theorem take_snoc (l : List UInt8) (k : Nat) (h : k < l.length) : l.take (k + 1) = l.take k ++ [l[k]] := by
  rw [List.take_succ_eq_append_getElem h]

theorem BytesAt.at_ {w : World} {A : Option Addr} {l : List UInt8} (h : BytesAt w A l) (k : Nat) (hk : k < l.length) :
    ∃ b off, A = some ⟨b, off, none⟩ ∧ w.cell? ⟨b, off + k, none⟩ = some (.int .u8 (l[k].toNat : Int)) := by
  rcases h with rfl | ⟨b, off, rfl, h⟩
  · simp at hk
  · exact ⟨b, off, rfl, h k hk⟩
theorem BytesAt.lt {w : World} {b off : Nat} {l : List UInt8} (h : BytesAt w (some ⟨b, off, none⟩) l) (hl : l ≠ []) : b < w.heap.size := by
  rcases h with rfl | ⟨b', off', e, h⟩
  · exact absurd rfl hl
  · cases e
    exact World.block_lt_of_cell? _ _ (h 0 (List.length_pos_iff.2 hl))

/-- A hash as the program has it: the four bytes of a number. -/
def hashVal (n : Nat) : Value := .agg #[.int .u8 ((n : Int) / 16777216), .int .u8 ((n : Int) / 65536 % 256), .int .u8 ((n : Int) / 256 % 256), .int .u8 ((n : Int) % 256)]

set_option maxHeartbeats 400000 in
theorem sum_any (A : Option Addr) (cap : Nat) (l : List UInt8) (w : World) (hb : BytesAt w A l) (hm : l.length ≤ 9223372036854775807) :
    Calls Tryd.prog 105 #[.slice A l.length cap] w fun e w' => e = .returned (hashVal (Pl.sumN l)) ∧ Below w.heap.size w w' := by
  go_enter Tryd.func105, Tryd.ntmps105
  go_wp2
  go_loop [3, 8] (fun h i => ∃ k : Nat, k ≤ l.length ∧ i = .int .i64 k ∧ h = .int .u64 (Pl.sumN (l.take k))) (fun _ i => l.length - (intOf i).toNat)
  case atStart => exact ⟨0, Nat.zero_le _, rfl, rfl⟩
  case round =>
    obtain ⟨k, hk, rfl, rfl⟩ := hrel
    have hlt := Pl.sumN_lt (l.take k)
    by_cases hkl : k < l.length
    · obtain ⟨b, off, rfl, hc⟩ := hb.at_ k hkl
      have hbl := World.block_lt_of_cell? _ _ hc
      have hcl : (l[k].toNat : Int) < 256 := by have := l[k].toNat_lt; omega
      go_wp2
      go_round
      case rel =>
        refine ⟨k + 1, by omega, by go_num, ?_⟩
        rw [take_snoc l k hkl, Pl.sumN_snoc]
        simp [Pl.sumStep]
      case measure => simp [intOf]; omega
    · have hkk : k = l.length := by omega
      subst hkk
      rw [List.take_length] at hlt
      simp only [List.take_length]
      go_wp2
      refine bodyPost_ret (v := hashVal (Pl.sumN l)) (by simp [results, Tryd.results105, go_sem, hashVal]) rfl ⟨rfl, ?_⟩
      exact (Below.refl _ _).alloc (Nat.le_refl _) _
end Go.Proofs.YtljmklohgpaopaaDoor
