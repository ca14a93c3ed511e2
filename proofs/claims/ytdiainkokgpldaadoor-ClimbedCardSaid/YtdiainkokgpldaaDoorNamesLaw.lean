/- The law Names walked: it returns true. -/
import Derived.Test.YtdiainkokgpldaaDoorTold
namespace Go.Proofs.YtdiainkokgpldaaDoor
open Go.RowKit

def errA (k : Int) (t : ByteArray) : Value := .agg #[.int .i64 k, .string t, .bool true]

/-- '==' between two errors in plain data. -/
theorem eql_err (k k' : Int) (t t' : ByteArray) (b b' : Bool) (w : World) :
    (binOp .eql 24 (.agg #[.int .i64 k, .string t, .bool b]) (.agg #[.int .i64 k', .string t', .bool b'])).run Tryd.prog w = .ok (.bool (k == k' && (t.toList == t'.toList && b == b'))) w := by
  have he := run_equalIn_struct (P := Tryd.prog) w 9999 24 #[.int .i64 k, .string t, .bool b] #[.int .i64 k', .string t', .bool b'] (by kernel_rfl) (by kernel_rfl)
  simp only [binOp]
  simp only [Op.equal, Op.maxDepth, Sem.run_bind, he]
  simp [go_sem, part]
  by_cases h1 : k = k' <;> by_cases h2 : t.toList = t'.toList <;> by_cases h3 : b = b' <;> simp [h1, h2, h3]

set_option maxHeartbeats 1000000 in
theorem plainTold0 (w : World) (hG : GE w) :
    Calls Tryd.prog 9 #[.int .i64 0] w fun e w' => e = .returned (.agg #[.int .i64 0, .string ⟨#[]⟩, .bool true]) ∧ Below w.heap.size w w' := by
  go_enter Tryd.func9, Tryd.ntmps9
  go_wp2_with fail
  refine (told_any _ 0 _ _ (hG.alloc _) (ErrV.nil _) (by omega)).mono ?_
  rintro e w1 ⟨rfl, hb1⟩
  have hB3 := (Blk.new w 24 [.int .i64 0, .string ⟨#[]⟩, .bool false]).below hb1 (by simp)
  have c0 := hB3.cell 0
  have c1 := hB3.cell 1
  have c2 := hB3.cell 2
  have f0 := hB3.frozen 0
  have f1 := hB3.frozen 1
  have f2 := hB3.frozen 2
  simp only [List.getElem?_cons_succ, List.getElem?_cons_zero] at c0 c1 c2
  have HW := Lib.hid (((hB3.set_ 0 (.int .i64 0)).set_ 1 (.string ⟨#[]⟩)).set_ 2 (.bool true))
  have H1 := Lib.hid hb1
  clear hB3 hb1
  go_wp2_with fail
  have d0 := HW.out.cell 0
  have d1 := HW.out.cell 1
  have d2 := HW.out.cell 2
  simp only [List.set_cons_zero, List.set_cons_succ, List.getElem?_cons_succ, List.getElem?_cons_zero] at d0 d1 d2
  refine bodyPost_ret (v := .agg #[.int .i64 0, .string ⟨#[]⟩, .bool true]) (by simp [results, Tryd.results9, go_sem, d0, d1, d2]) rfl ⟨rfl, ?_⟩
  exact (((((Below.refl _ _).alloc (Nat.le_refl _) _).trans (H1.out.mono (by simp))).setCell (Nat.le_refl _) _).setCell (Nat.le_refl _) _).setCell (Nat.le_refl _) _
set_option maxHeartbeats 1000000 in
theorem plainTold1 (w : World) (hG : GE w) :
    Calls Tryd.prog 9 #[.int .i64 1] w fun e w' => e = .returned (.agg #[.int .i64 5, .string ⟨#[]⟩, .bool true]) ∧ Below w.heap.size w w' := by
  go_enter Tryd.func9, Tryd.ntmps9
  go_wp2_with fail
  refine (told_any _ 5 _ _ (hG.alloc _) (ErrV.kind _ 5) (by omega)).mono ?_
  rintro e w1 ⟨rfl, hb1⟩
  have hB3 := (Blk.new w 24 [.int .i64 0, .string ⟨#[]⟩, .bool false]).below hb1 (by simp)
  have c0 := hB3.cell 0
  have c1 := hB3.cell 1
  have c2 := hB3.cell 2
  have f0 := hB3.frozen 0
  have f1 := hB3.frozen 1
  have f2 := hB3.frozen 2
  simp only [List.getElem?_cons_succ, List.getElem?_cons_zero] at c0 c1 c2
  have HW := Lib.hid (((hB3.set_ 0 (.int .i64 5)).set_ 1 (.string ⟨#[]⟩)).set_ 2 (.bool true))
  have H1 := Lib.hid hb1
  clear hB3 hb1
  go_wp2_with fail
  have d0 := HW.out.cell 0
  have d1 := HW.out.cell 1
  have d2 := HW.out.cell 2
  simp only [List.set_cons_zero, List.set_cons_succ, List.getElem?_cons_succ, List.getElem?_cons_zero] at d0 d1 d2
  refine bodyPost_ret (v := .agg #[.int .i64 5, .string ⟨#[]⟩, .bool true]) (by simp [results, Tryd.results9, go_sem, d0, d1, d2]) rfl ⟨rfl, ?_⟩
  exact (((((Below.refl _ _).alloc (Nat.le_refl _) _).trans (H1.out.mono (by simp))).setCell (Nat.le_refl _) _).setCell (Nat.le_refl _) _).setCell (Nat.le_refl _) _
set_option maxHeartbeats 1000000 in
theorem plainTold2 (w : World) (hG : GE w) :
    Calls Tryd.prog 9 #[.int .i64 2] w fun e w' => e = .returned (.agg #[.int .i64 16, .string ⟨#[116, 97, 98]⟩, .bool true]) ∧ Below w.heap.size w w' := by
  go_enter Tryd.func9, Tryd.ntmps9
  go_wp2_with fail
  refine (told_any _ 16 ⟨#[116, 97, 98]⟩ _ ((hG.alloc _).alloc _) (.inr (.inr ⟨w.heap.size + 1, rfl, Blk.newAt (w.alloc (.cells #[.int .i64 0, .string ⟨#[]⟩, .bool false] 24)) 85 [.string ⟨#[116, 97, 98]⟩, .int .i64 16] _ (by simp)⟩)) (by omega)).mono ?_
  rintro e w1 ⟨rfl, hb1⟩
  have hB3 := ((Blk.new w 24 [.int .i64 0, .string ⟨#[]⟩, .bool false]).alloc _).below hb1 (by simp; omega)
  have c0 := hB3.cell 0
  have c1 := hB3.cell 1
  have c2 := hB3.cell 2
  have f0 := hB3.frozen 0
  have f1 := hB3.frozen 1
  have f2 := hB3.frozen 2
  simp only [List.getElem?_cons_succ, List.getElem?_cons_zero] at c0 c1 c2
  have HW := Lib.hid (((hB3.set_ 0 (.int .i64 16)).set_ 1 (.string ⟨#[116, 97, 98]⟩)).set_ 2 (.bool true))
  have H1 := Lib.hid hb1
  clear hB3 hb1
  go_wp2_with fail
  have d0 := HW.out.cell 0
  have d1 := HW.out.cell 1
  have d2 := HW.out.cell 2
  simp only [List.set_cons_zero, List.set_cons_succ, List.getElem?_cons_succ, List.getElem?_cons_zero] at d0 d1 d2
  refine bodyPost_ret (v := .agg #[.int .i64 16, .string ⟨#[116, 97, 98]⟩, .bool true]) (by simp [results, Tryd.results9, go_sem, d0, d1, d2]) rfl ⟨rfl, ?_⟩
  exact ((((((Below.refl _ _).alloc (Nat.le_refl _) _).alloc (by simp) _).trans (H1.out.mono (by simp; omega))).setCell (Nat.le_refl _) _).setCell (Nat.le_refl _) _).setCell (Nat.le_refl _) _

set_option maxHeartbeats 2000000 in
theorem names_law (w : World) (hG : GE w) :
    Calls Tryd.prog 3 #[] w fun e w' => e = .returned (.bool true) ∧ Below w.heap.size w w' := by
  have q := eql_err
  go_enter Tryd.func3, Tryd.ntmps3
  go_wp2_with fail
  refine (plainTold0 _ hG).mono ?_
  rintro e w1 ⟨rfl, hb1⟩
  go_wp2_with fail
  refine (plainTold1 _ ((hG.below hb1).alloc _)).mono ?_
  rintro e w2 ⟨rfl, hb2⟩
  go_wp2_with fail
  refine (plainTold2 _ ((((hG.below hb1).alloc _).below hb2).alloc _)).mono ?_
  rintro e w3 ⟨rfl, hb3⟩
  have h1 : Below w.heap.size w w1 := hb1
  have h2 : Below w.heap.size w w2 := (h1.alloc h1.size _).trans (hb2.mono (by simp; have := h1.size; omega))
  have h3 : Below w.heap.size w w3 := (h2.alloc h2.size _).trans (hb3.mono (by simp; have := h2.size; omega))
  have B1 := (((Blk.new w1 24 [.int .i64 0, .string ⟨#[]⟩, .bool true]).below hb2 (by simp)).alloc (.cells #[.int .i64 5, .string ⟨#[]⟩, .bool true] 24)).below hb3 (by have := hb2.size; simp at this ⊢; omega)
  have B2 := (Blk.new w2 24 [.int .i64 5, .string ⟨#[]⟩, .bool true]).below hb3 (by simp)
  have s1 := B1.lt
  have s2 := B2.lt
  have c0 := B1.cell 0
  have c1 := B1.cell 1
  have c2 := B1.cell 2
  have d0 := B2.cell 0
  have d1 := B2.cell 1
  have d2 := B2.cell 2
  simp only [List.getElem?_cons_succ, List.getElem?_cons_zero] at c0 c1 c2 d0 d1 d2
  have H3 := Lib.hid h3
  clear hb1 hb2 hb3 h1 h2 h3 B1 B2
  go_wp2_with fail
  go_ret
  exact ⟨rfl, H3.out.alloc H3.out.size _⟩
end Go.Proofs.YtdiainkokgpldaaDoor
