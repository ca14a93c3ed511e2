/- The walks of the harness's is and bare, of plain's hash and Root. -/
import Derived.Test.YtdiainkokgpldaaDoorTreeX
import Derived.Test.YtdiainkokgpldaaDoorNamesLaw
namespace Go.Proofs.YtdiainkokgpldaaDoor
open Go.RowKit

namespace Pl
/-- What bytes tell, the highest first. -/
def num (l : List UInt8) : Nat := l.foldl (fun v c => 256 * v + c.toNat) 0
theorem num_four (a b c d : UInt8) : num [a, b, c, d] = ((a.toNat * 256 + b.toNat) * 256 + c.toNat) * 256 + d.toNat := by simp [num]; omega
theorem be_num4 (a b c d : UInt8) : be 4 (num [a, b, c, d]) = [a, b, c, d] := by
  have ha := a.toNat_lt
  have hb := b.toNat_lt
  have hc := c.toNat_lt
  have hd := d.toNat_lt
  rw [num_four, show ∀ n, be 4 n = hashText n from fun _ => rfl, hashText_eq]
  have e : ∀ (x : UInt8) (n : Nat), n % 256 = x.toNat → UInt8.ofNat n = x := by
    intro x n h
    apply UInt8.toNat_inj.1
    simpa using h
  rw [e a _ (by omega), e b _ (by omega), e c _ (by omega), e d _ (by omega)]
/-- The hash that is made of a text: its first bytes, noughts behind. -/
def hashOf (l : List UInt8) : Nat := num ((l ++ [0, 0, 0, 0]).take 4)
theorem take4 (l : List UInt8) : ∃ a b c d, (l ++ [0, 0, 0, 0]).take 4 = [a, b, c, d] := by
  match l with
  | [] => exact ⟨_, _, _, _, rfl⟩
  | [_] => exact ⟨_, _, _, _, rfl⟩
  | [_, _] => exact ⟨_, _, _, _, rfl⟩
  | [_, _, _] => exact ⟨_, _, _, _, rfl⟩
  | a :: b :: c :: d :: r => exact ⟨a, b, c, d, rfl⟩
theorem be_hashOf (l : List UInt8) : be 4 (hashOf l) = (l ++ [0, 0, 0, 0]).take 4 := by
  obtain ⟨a, b, c, d, h⟩ := take4 l
  rw [hashOf, h, be_num4]
theorem hashOf_lt (l : List UInt8) : hashOf l < 4294967296 := by
  obtain ⟨a, b, c, d, h⟩ := take4 l
  have ha := a.toNat_lt
  have hb := b.toNat_lt
  have hc := c.toNat_lt
  have hd := d.toNat_lt
  rw [hashOf, h, num_four]
  omega
end Pl

theorem is_eq (k k' : Int) (t t' : ByteArray) (w : World) :
    Calls Tryd.prog 44 #[errA k t, .int .i64 k', .string t'] w fun e w' => e = .returned (.bool (k == k' && t.toList == t'.toList)) ∧ Below w.heap.size w w' := by
  have q := eql_err
  unfold errA
  go_enter Tryd.func44, Tryd.ntmps44
  go_wp2_with fail
  go_ret
  refine ⟨?_, (Below.refl _ _).alloc (Nat.le_refl _) _⟩
  simp

theorem bare_any (k k' : Int) (t : ByteArray) (w : World) :
    Calls Tryd.prog 15 #[errA k t, .int .i64 k'] w fun e w' => e = .returned (.bool (k == k' && t.toList.isEmpty)) ∧ Below w.heap.size w w' := by
  unfold errA
  go_enter Tryd.func15, Tryd.ntmps15
  go_wp2_with fail
  refine (is_eq k k' t ⟨#[]⟩ _).mono ?_
  rintro e w1 ⟨rfl, hb1⟩
  go_wp2_with fail
  go_ret
  exact ⟨rfl, ((Below.refl _ _).alloc (Nat.le_refl _) _).trans (hb1.mono (by simp))⟩

theorem plainRoot_any (ls : List (List UInt8)) (A : Option Addr) (cap : Nat) (w : World) (hb : BB w A ls) (hc : ls.length ≤ cap) (hm : ls.length ≤ 4611686018427387903) :
    Calls Tryd.prog 11 #[.slice A ls.length cap] w fun e w' => e = .returned (.string (hstr (Pl.root ls))) ∧ Below w.heap.size w w' := by
  have hlt := Pl.root_lt ls
  go_enter Tryd.func11, Tryd.ntmps11
  go_wp2_with fail
  refine (root_any _ ls A cap _ (Nat.le_refl _) hb hc hm).mono ?_
  rintro e w1 ⟨rfl, hb1⟩
  go_wp2_with fail
  refine (text_any _ (by omega) _).mono ?_
  rintro e w2 ⟨rfl, hb2⟩
  go_wp2_with fail
  go_ret
  exact ⟨rfl, hb1.trans (hb2.mono hb1.size)⟩

/-- copy(row, s) out of a string, as much as fits. -/
theorem run_copy_cut {P : Program} (w : World) (dT sT ty elem : TypeId) (g o dLen dCap m : Nat) (s : ByteArray) (cur : List Value) (t : TypeId)
    (hu : P.underlying dT = some (.slice elem)) (hs : (P.info? elem).map (·.size) = some 1) (hg : Blk w g t cur) (hm : Nat.min s.size dLen = m) (hfit : o + m ≤ cur.length) :
    (Builtin.copy_ #[dT, sT] ty #[.slice (some ⟨g, o, none⟩) dLen dCap, .string s]).run P w =
      .ok (goInt m) (w.setRow g (cur.take o ++ bv (s.data.toList.take m) ++ cur.drop (o + m)).toArray) := by
  have hms : m ≤ s.size := by rw [← hm]; exact Nat.min_le_left _ _
  have hl : (bv (s.data.toList.take m)).length = m := by
    rw [bv_length, List.length_take]
    exact Nat.min_eq_left hms
  have hst := run_storeCells_at P g o t (bv (s.data.toList.take m)) 0 cur.toArray w hg (by simp only [List.size_toArray]; rw [hl]; exact hfit) (bv_one _)
  cases hq : P.info? elem with
  | none => simp [hq] at hs
  | some i =>
    have hi : i.size = 1 := by simpa [hq] using hs
    have hb : List.take m (List.map (fun b : UInt8 => Value.int .u8 (b.toNat : Int)) s.data.toList) = bv (s.data.toList.take m) := by
      rw [bv, List.map_take]
    simp only [Nat.add_zero, hl] at hst
    simp [Builtin.copy_, run_underlying hu, Builtin.lenOf, Builtin.firstCells, sizeOf, typeInfo, hq, hm]
    rw [hb, hst]
    simp [Result.andThen]

theorem Tryd.sizeByte2 : (Tryd.prog.info? 5).map (·.size) = some 1 := by kernel_rfl

theorem hc_hashOf (l : List UInt8) : bv (l.take (Nat.min l.length 4)) ++ List.drop (0 + Nat.min l.length 4) [.int .u8 0, .int .u8 0, .int .u8 0, .int .u8 0] = hc (Pl.hashOf l) := by
  rw [← hc_bytes _ (Pl.hashOf_lt l), Pl.be_hashOf]
  match l with
  | [] => rfl
  | [_] => rfl
  | [_, _] => rfl
  | [_, _, _] => rfl
  | a :: b :: c :: d :: r =>
    have h4 : Nat.min (a :: b :: c :: d :: r).length 4 = 4 := by simp
    rw [h4]
    rfl

set_option maxHeartbeats 1000000 in
theorem hash_any (s : ByteArray) (w : World) :
    Calls Tryd.prog 45 #[.string s] w fun e w' => e = .returned (hashVal (Pl.hashOf s.data.toList)) ∧ Below w.heap.size w w' := by
  have hs : s.data.toList.length = s.size := rfl
  have hcp := run_copy_cut (P := Tryd.prog) ((w.alloc (.cells #[.int .u8 0, .int .u8 0, .int .u8 0, .int .u8 0] 89)).alloc (.cells #[.int .u8 0, .int .u8 0, .int .u8 0, .int .u8 0] 89)) 37 9 3 5 (w.heap.size + 1) 0 4 4 (Nat.min s.size 4) s [.int .u8 0, .int .u8 0, .int .u8 0, .int .u8 0] 89 Tryd.underlying37 Tryd.sizeByte (Blk.newAt _ _ _ _ (by simp)) rfl (by simp; exact Nat.min_le_right _ _)
  have hh := hc_hashOf s.data.toList
  rw [hs] at hh
  rw [List.take_zero, List.nil_append, hh] at hcp
  obtain ⟨h, hhh⟩ : ∃ h, Pl.hashOf s.data.toList = h := ⟨_, rfl⟩
  rw [hhh] at hcp ⊢
  have hr : ((w.alloc (.cells #[.int .u8 0, .int .u8 0, .int .u8 0, .int .u8 0] 89)).alloc (.cells #[.int .u8 0, .int .u8 0, .int .u8 0, .int .u8 0] 89)).setRow (w.heap.size + 1) (hc h).toArray = (w.alloc (.cells #[.int .u8 0, .int .u8 0, .int .u8 0, .int .u8 0] 89)).alloc (.cells (hc h).toArray 89) := by
    have := setRow_alloc (w.alloc (.cells #[.int .u8 0, .int .u8 0, .int .u8 0, .int .u8 0] 89)) #[.int .u8 0, .int .u8 0, .int .u8 0, .int .u8 0] (hc h).toArray 89
    simpa using this
  rw [hr] at hcp
  unfold hc at hcp
  clear hh hs hhh hr
  go_enter Tryd.func45, Tryd.ntmps45
  go_wp2_with fail
  exact bodyPost_ret (v := hashVal h) (results_hash rfl rfl ((Blk.new w 89 (hc h)).alloc _)) rfl ⟨rfl, ((Below.refl _ _).alloc (Nat.le_refl _) _).alloc (by simp) _⟩
end Go.Proofs.YtdiainkokgpldaaDoor
