/- api.Told and plain's told by their contracts: nil, a Kind, a table's error. -/
import Derived.Test.YtljmklohgpaopaaDoorErrAsW
import Derived.Test.YtljmklohgpaopaaDoorErrIs
import Derived.RegionTactic
import Derived.Deep.QuietTactic
import Derived.BigQuiet
namespace Go.Proofs.YtljmklohgpaopaaDoor
open Go.RowKit Go.Extern.Stop Go.Stop Go.Extern

/-- The value is an error of this kind (0: none), of this table. -/
def ErrV (w : World) (v : Value) (k : Nat) (t : ByteArray) : Prop :=
  (v = .nilIface ∧ k = 0 ∧ t = ⟨#[]⟩) ∨ (v = .iface 25 (.int .i64 (k : Int)) ∧ t = ⟨#[]⟩) ∨
    ∃ g, v = .iface 138 (.pointer (some ⟨g, 0, none⟩)) ∧ Blk w g 142 [.string t, .int .i64 (k : Int)]
theorem ErrV.nil (w : World) : ErrV w .nilIface 0 ⟨#[]⟩ := .inl ⟨rfl, rfl, rfl⟩
theorem ErrV.kind (w : World) (k : Nat) : ErrV w (.iface 25 (.int .i64 (k : Int))) k ⟨#[]⟩ := .inr (.inl ⟨rfl, rfl⟩)
theorem ErrV.below {w w' : World} {v : Value} {k : Nat} {t : ByteArray} (h : ErrV w v k t) (hb : Below w.heap.size w w') : ErrV w' v k t := by
  rcases h with h | h | ⟨g, h, hg⟩
  · exact .inl h
  · exact .inr (.inl h)
  · exact .inr (.inr ⟨g, h, hg.below hb hg.lt⟩)
theorem GE.below {w w' : World} (h : GE w) (hb : Below w.heap.size w w') : GE w' := by
  have hz := World.block_lt_of_cell? _ _ h
  exact (hb.cell (p := ⟨0, 0, none⟩) hz).trans h
theorem GE.lt {w : World} (h : GE w) : 0 < w.heap.size := World.block_lt_of_cell? _ _ h

theorem told0_nil (w : World) (hG : GE w) :
    Calls Tryd.prog 52 #[.nilIface] w fun e w' => e = .returned (.tuple #[.int .i64 0, .string ⟨#[]⟩]) ∧ Below w.heap.size w w' := by
  go_enter Tryd.func52, Tryd.ntmps52
  go_wp2_with fail
  refine (as_nil _ _).mono ?_
  rintro e w' ⟨rfl, rfl⟩
  go_wp2_with fail
  refine (as_nil _ _).mono ?_
  rintro e w' ⟨rfl, rfl⟩
  go_wp2_with fail
  go_ret2
  exact ⟨rfl, ((Below.refl _ _).alloc (Nat.le_refl _) _).alloc (by simp) _⟩

theorem GE.alloc {w : World} (h : GE w) (o : Obj) : GE (w.alloc o) := h.below ((Below.refl _ _).alloc (Nat.le_refl _) _)

set_option maxHeartbeats 1000000 in
theorem told0_kind (k : Int) (w : World) (hG : GE w) :
    Calls Tryd.prog 52 #[.iface 25 (.int .i64 k)] w fun e w' => e = .returned (.tuple #[.int .i64 k, .string ⟨#[]⟩]) ∧ Below w.heap.size w w' := by
  go_enter Tryd.func52, Tryd.ntmps52
  go_wp2_with fail
  refine (as_K_miss k w.heap.size _ _ (hG.alloc _) (Blk.new w _ _)).mono ?_
  rintro e w1 ⟨rfl, hb1⟩
  have hs1 := hb1.size
  simp only [World.size_alloc] at hs1
  go_wp2_with fail
  refine (as_K_hit k w1.heap.size _ _ (((hG.alloc _).below hb1).alloc _) (Blk.new w1 _ _)).mono ?_
  rintro e w2 ⟨rfl, hon, hblk⟩
  have hc := hblk.cell 0
  simp only [List.getElem?_cons_zero] at hc
  go_wp2_with fail
  go_ret2
  have h1 : Below w.heap.size w w1 := ((Below.refl _ _).alloc (Nat.le_refl _) _).trans (hb1.mono (by simp))
  exact ⟨rfl, (h1.alloc h1.size _).trans (below_of_only hon h1.size (by have := h1.size; simp; omega))⟩

set_option maxHeartbeats 1000000 in
theorem told0_table (g : Nat) (t : ByteArray) (k : Int) (w : World) (hG : GE w) (hb : Blk w g 142 [.string t, .int .i64 k]) :
    Calls Tryd.prog 52 #[.iface 138 (.pointer (some ⟨g, 0, none⟩))] w fun e w' => e = .returned (.tuple #[.int .i64 k, .string t]) ∧ Below w.heap.size w w' := by
  go_enter Tryd.func52, Tryd.ntmps52
  go_wp2_with fail
  refine (as_P_hit ⟨g, 0, none⟩ w.heap.size _ _ (hG.alloc _) (Blk.new w _ _)).mono ?_
  rintro e w2 ⟨rfl, hon, hblk⟩
  have hc := hblk.cell 0
  simp only [List.getElem?_cons_zero] at hc
  have hb2 := (hb.alloc (.cells #[.pointer none] 138)).grown hon (by have := hb.lt; simp; omega)
  have hc0 := hb2.cell 0
  have hc1 := hb2.cell 1
  simp only [List.getElem?_cons_succ, List.getElem?_cons_zero] at hc0 hc1
  have hbel : Below w.heap.size w w2 := ((Below.refl _ _).alloc (Nat.le_refl _) _).trans (below_of_only hon (Nat.le_refl _) (by simp))
  have HB := Lib.hid hbel
  clear hbel hon hblk hb2 hb
  go_wp2_with fail
  go_quiet (fail)
  go_wp2_with fail
  go_ret2
  exact ⟨rfl, below_drewN HB.out _⟩

theorem told0_any (v : Value) (k : Nat) (t : ByteArray) (w : World) (hG : GE w) (h : ErrV w v k t) :
    Calls Tryd.prog 52 #[v] w fun e w' => e = .returned (.tuple #[.int .i64 (k : Int), .string t]) ∧ Below w.heap.size w w' := by
  rcases h with ⟨rfl, rfl, rfl⟩ | ⟨rfl, rfl⟩ | ⟨g, rfl, hb⟩
  · exact told0_nil w hG
  · exact told0_kind k w hG
  · exact told0_table g t k w hG hb
theorem is_any (v : Value) (k : Nat) (t : ByteArray) (i : Int) (w : World) (h : ErrV w v k t) (hi : 1 ≤ i) :
    Calls Tryd.prog 53 #[v, .iface 25 (.int .i64 i)] w fun e w' => e = .returned (.bool ((k : Int) == i)) ∧ w = w' := by
  rcases h with ⟨rfl, rfl, rfl⟩ | ⟨rfl, rfl⟩ | ⟨g, rfl, hb⟩
  · refine (is_nil i w).mono fun e w' ⟨he, hw⟩ => ⟨?_, hw⟩
    rw [he]
    have : (((0 : Nat) : Int) == i) = false := by simp; omega
    rw [this]
  · exact is_kind k i w
  · exact is_table g _ k i w hb

set_option maxHeartbeats 1000000 in
theorem told_any (v : Value) (k : Nat) (t : ByteArray) (w : World) (hG : GE w) (h : ErrV w v k t) (hk : k ≤ 21) :
    Calls Tryd.prog 24 #[v] w fun e w' => e = .returned (.agg #[.int .i64 (k : Int), .string t, .bool true]) ∧ Below w.heap.size w w' := by
  go_enter Tryd.func24, Tryd.ntmps24
  go_wp2_with fail
  refine (told0_any v k t _ (hG.alloc _) (h.below ((Below.refl _ _).alloc (Nat.le_refl _) _))).mono ?_
  rintro e w1 ⟨rfl, hb1⟩
  have hs1 := hb1.size
  simp only [World.size_alloc] at hs1
  have h1 : Below w.heap.size w w1 := ((Below.refl _ _).alloc (Nat.le_refl _) _).trans (hb1.mono (by simp))
  have hE := h.below (h1.trans ((Below.refl _ _).alloc h1.size (.cells #[.int .i64 (k : Int), .string t, .bool true] 27)))
  have hblk2 : Blk w1 w.heap.size 27 [.int .i64 0, .string ⟨#[]⟩, .bool false] := (Blk.new w 27 [.int .i64 0, .string ⟨#[]⟩, .bool false]).below hb1 (by simp)
  have H1 := Lib.hid h1
  have HB2 := Lib.hid hblk2
  have HE := Lib.hid hE
  clear h1 hb1 hblk2 hE h hG
  go_wp2_with fail
  go_loop [6] (fun i => ∃ n : Nat, 1 ≤ n ∧ n ≤ 22 ∧ i = .int .i64 (n : Int)) (fun i => 22 - (intOf i).toNat)
  case atStart => exact ⟨1, by omega, by omega, rfl⟩
  case round =>
    obtain ⟨n, hn1, hn2, rfl⟩ := hrel
    by_cases hlt : n ≤ 21
    · cases hkn : (((k : Nat) : Int) == (n : Int))
      all_goals
        have hnk : ((n : Int) == ((k : Nat) : Int)) = _ := Bool.beq_comm.trans hkn
        have HKN := Lib.hid hkn
        clear hkn
        go_wp2_with fail
        refine (is_any v k t n _ HE.out (by omega)).mono ?_
        rintro e w' ⟨rfl, rfl⟩
        rw [HKN.out]
        go_wp2_with fail
        go_round
        case rel => exact ⟨n + 1, by omega, by omega, by go_num⟩
        case measure => simp [intOf]; omega
    · have hB3 := HB2.out.alloc (.cells #[.int .i64 (k : Int), .string t, .bool true] 27)
      have c0 := hB3.cell 0
      have c1 := hB3.cell 1
      have c2 := hB3.cell 2
      have f0 := hB3.frozen 0
      have f1 := hB3.frozen 1
      have f2 := hB3.frozen 2
      simp only [List.getElem?_cons_succ, List.getElem?_cons_zero] at c0 c1 c2
      have hW := ((hB3.set_ 0 (.int .i64 (k : Int))).set_ 1 (.string t)).set_ 2 (.bool true)
      have HW := Lib.hid hW
      clear hB3 hW
      go_wp2_with fail
      have d0 := HW.out.cell 0
      have d1 := HW.out.cell 1
      have d2 := HW.out.cell 2
      simp only [List.set_cons_zero, List.set_cons_succ, List.getElem?_cons_succ, List.getElem?_cons_zero] at d0 d1 d2
      refine bodyPost_ret (v := .agg #[.int .i64 (k : Int), .string t, .bool true]) (by simp [results, Tryd.results24, go_sem, d0, d1, d2]) rfl ⟨rfl, ?_⟩
      exact (((H1.out.alloc H1.out.size _).setCell (Nat.le_refl _) _).setCell (Nat.le_refl _) _).setCell (Nat.le_refl _) _
end Go.Proofs.YtljmklohgpaopaaDoor
