/- The walks of the harness's is and bare, of plain's hash and Root. -/
import Derived.Test.YtljmklohgpaopaaDoorTreeX
import Derived.Test.YtljmklohgpaopaaDoorNamesLaw
namespace Go.Proofs.YtljmklohgpaopaaDoor
open Go.RowKit


theorem is_eq (k k' : Int) (t t' : ByteArray) (w : World) :
    Calls Tryd.prog 30 #[errA k t, .int .i64 k', .string t'] w fun e w' => e = .returned (.bool (k == k' && t.toList == t'.toList)) ∧ Below w.heap.size w w' := by
  have q := eql_err
  unfold errA
  go_enter Tryd.func30, Tryd.ntmps30
  go_wp2_with fail
  go_ret
  refine ⟨?_, (Below.refl _ _).alloc (Nat.le_refl _) _⟩
  simp

theorem bare_any (k k' : Int) (t : ByteArray) (w : World) :
    Calls Tryd.prog 12 #[errA k t, .int .i64 k'] w fun e w' => e = .returned (.bool (k == k' && t.toList.isEmpty)) ∧ Below w.heap.size w w' := by
  unfold errA
  go_enter Tryd.func12, Tryd.ntmps12
  go_wp2_with fail
  refine (is_eq k k' t ⟨#[]⟩ _).mono ?_
  rintro e w1 ⟨rfl, hb1⟩
  go_wp2_with fail
  go_ret
  exact ⟨rfl, ((Below.refl _ _).alloc (Nat.le_refl _) _).trans (hb1.mono (by simp))⟩

/-- copy(row, s) out of a string, as much as fits. -/
theorem run_copy_cut {P : Program} (w : World) (dT sT ty elem : TypeId) (g o dLen dCap m : Nat) (s : ByteArray) (cur : List Value) (t : TypeId)
    (hu : P.underlying dT = some (.slice elem)) (hs : (P.info? elem).map (·.size) = some 1) (hg : Blk w g t cur) (hm : Nat.min s.size dLen = m) (hfit : o + m ≤ cur.length) :
    (Builtin.copy_ #[dT, sT] ty #[.slice (some ⟨g, o, none⟩) dLen dCap, .string s]).run P w =
      .ok (goInt m) (w.setRow g (cur.take o ++ bv (s.data.toList.take m) ++ cur.drop (o + m)).toArray) := by
  have hms : m ≤ s.size := by rw [← hm]; exact Nat.min_le_left _ _
  have hl : (bv (s.data.toList.take m)).length = m := by
    rw [bv_length, List.length_take]
    exact Nat.min_eq_left hms
  have hst := run_storeCells_at P g o t (bv (s.data.toList.take m)) 0 cur.toArray w hg (by simp only [List.size_toArray]; rw [hl]; exact hfit) (bv_one _)
  cases hq : P.info? elem with
  | none => simp [hq] at hs
  | some i =>
    have hi : i.size = 1 := by simpa [hq] using hs
    have hb : List.take m (List.map (fun b : UInt8 => Value.int .u8 (b.toNat : Int)) s.data.toList) = bv (s.data.toList.take m) := by
      rw [bv, List.map_take]
    simp only [Nat.add_zero, hl] at hst
    simp [Builtin.copy_, run_underlying hu, Builtin.lenOf, Builtin.firstCells, sizeOf, typeInfo, hq, hm]
    rw [hb, hst]
    simp [Result.andThen]

set_option maxHeartbeats 1000000 in
theorem hash_any (s : ByteArray) (w : World) :
    Calls Tryd.prog 26 #[.string s] w fun e w' => e = .returned (hashVal (Pl.hashOf s.data.toList)) ∧ Below w.heap.size w w' := by
  have hs : s.data.toList.length = s.size := rfl
  have hcp := run_copy_cut (P := Tryd.prog) ((w.alloc (.cells #[.int .u8 0, .int .u8 0, .int .u8 0, .int .u8 0] 73)).alloc (.cells #[.int .u8 0, .int .u8 0, .int .u8 0, .int .u8 0] 73)) 23 9 3 5 (w.heap.size + 1) 0 4 4 (Nat.min s.size 4) s [.int .u8 0, .int .u8 0, .int .u8 0, .int .u8 0] 73 Tryd.underlying23 Tryd.sizeByte (Blk.newAt _ _ _ _ (by simp)) rfl (by simp; exact Nat.min_le_right _ _)
  have hh := hc_hashOf s.data.toList
  rw [hs] at hh
  rw [List.take_zero, List.nil_append, hh] at hcp
  obtain ⟨h, hhh⟩ : ∃ h, Pl.hashOf s.data.toList = h := ⟨_, rfl⟩
  rw [hhh] at hcp ⊢
  have hr : ((w.alloc (.cells #[.int .u8 0, .int .u8 0, .int .u8 0, .int .u8 0] 73)).alloc (.cells #[.int .u8 0, .int .u8 0, .int .u8 0, .int .u8 0] 73)).setRow (w.heap.size + 1) (hc h).toArray = (w.alloc (.cells #[.int .u8 0, .int .u8 0, .int .u8 0, .int .u8 0] 73)).alloc (.cells (hc h).toArray 73) := by
    have := setRow_alloc (w.alloc (.cells #[.int .u8 0, .int .u8 0, .int .u8 0, .int .u8 0] 73)) #[.int .u8 0, .int .u8 0, .int .u8 0, .int .u8 0] (hc h).toArray 73
    simpa using this
  rw [hr] at hcp
  unfold hc at hcp
  clear hh hs hhh hr
  go_enter Tryd.func26, Tryd.ntmps26
  go_wp2_with fail
  exact bodyPost_ret (v := hashVal h) (results_hash rfl rfl ((Blk.new w 73 (hc h)).alloc _)) rfl ⟨rfl, ((Below.refl _ _).alloc (Nat.le_refl _) _).alloc (by simp) _⟩
end Go.Proofs.YtljmklohgpaopaaDoor
