/- errors.As walked: a TableError into a TableError's pointer; a Kind into a TableError's pointer (no); a Kind into a Kind. -/
import Derived.Test.YtljmklohgpaopaaDoorErrAs2
namespace Go.Proofs.YtljmklohgpaopaaDoor
open Go.RowKit Go.Extern.Stop Go.Stop Go.Extern


set_option maxHeartbeats 4000000 in
set_option maxRecDepth 100000 in
theorem as_P_hit (e : Addr) (g : Nat) (old : Value) (w : World) (hG : GE w) (hb : Blk w g 138 [old]) :
    Calls Tryd.prog 75 #[.iface 138 (.pointer (some e)), .iface 140 (.pointer (some ⟨g, 0, none⟩))] w fun ev w' => ev = .returned (.bool true) ∧ w.grownBy w' (some g) ∧ Blk w' g 138 [.pointer (some e)] := by
  have hlt : g < w.heap.size := hb.lt
  have h0 : w.cell? ⟨0, 0, none⟩ = some (.iface 185 (.agg #[.pointer (some ⟨1, 70, none⟩)])) := hG
  have hz := World.block_lt_of_cell? _ _ h0
  have y1 := x123
  have y2 := x124
  have y3 := x125
  have y4 := x146
  have y5 := x162
  have y6 := x163
  have y7 := x99
  have y8 := x160
  have y9 := x129
  have y10 := x130
  have f1 := Tryd.valueOfPP
  have f2 := Tryd.typePP
  have f3 := Tryd.methodKind
  have f4 := Tryd.kindPP
  have f5 := Tryd.kindP
  have f6 := Tryd.methodElem
  have f7 := Tryd.methodImplements
  have f8 := Tryd.methodAssignableTo
  have f9 := Tryd.elemPP
  have f10 := Tryd.implementsP
  have f11 := Tryd.typeOfP
  have f12 := Tryd.assignablePP
  have f13 := Tryd.valueOfP
  have f14 := Tryd.isNilPP
  have el := Tryd.elemVPP ⟨w.heap.size, 0, none⟩ ⟨g, 0, none⟩ (((w.alloc (.cells #[.pointer (some ⟨g, 0, none⟩)] 140)).alloc (.cells #[.pointer (some ⟨1, 140, none⟩), .pointer (some ⟨w.heap.size, 0, none⟩), .int .u64 150] 177)).alloc (.cells #[.pointer (some ⟨1, 140, none⟩), .pointer (some ⟨w.heap.size, 0, none⟩), .int .u64 150] 177))
    (by rw [World.cell?_alloc_lt _ _ ⟨w.heap.size, 0, none⟩ (by simp; omega), World.cell?_alloc_lt _ _ ⟨w.heap.size, 0, none⟩ (by simp)]; simp)
  have st := Tryd.setP ⟨g, 0, none⟩ ⟨w.heap.size + 1 + 1 + 1, 0, none⟩ e old ((((w.alloc (.cells #[.pointer (some ⟨g, 0, none⟩)] 140)).alloc (.cells #[.pointer (some ⟨1, 140, none⟩), .pointer (some ⟨w.heap.size, 0, none⟩), .int .u64 150] 177)).alloc (.cells #[.pointer (some ⟨1, 140, none⟩), .pointer (some ⟨w.heap.size, 0, none⟩), .int .u64 150] 177)).alloc (.cells #[.pointer (some e)] 138))
    (by rw [World.cell?_alloc_at _ _ _ _ (by simp)]; rfl)
    (by rw [((((hb.alloc _).alloc _).alloc _).alloc _).cell 0]; rfl)
    (((((hb.alloc _).alloc _).alloc _).alloc _).frozen 0)
  have hc := hb.cell 0
  have hf := hb.frozen 0
  simp only [List.getElem?_cons_zero] at hc
  go_enter Tryd.func75, Tryd.ntmps75
  go_wp2
  refine wp_loop_rounds 1 ?_
  rw [rounds_succ]
  go_wp2
  go_ret
  exact ⟨rfl, only_setCell (only_alloc (only_alloc (only_alloc (only_alloc (World.grownBy.refl w _) _) _) _) _) (.inl rfl) _, ((((hb.alloc _).alloc _).alloc _).alloc _).set_ 0 _⟩


set_option maxHeartbeats 4000000 in
set_option maxRecDepth 100000 in
theorem as_K_hit (k : Int) (g : Nat) (old : Value) (w : World) (hG : GE w) (hb : Blk w g 25 [old]) :
    Calls Tryd.prog 75 #[.iface 25 (.int .i64 k), .iface 143 (.pointer (some ⟨g, 0, none⟩))] w fun ev w' => ev = .returned (.bool true) ∧ w.grownBy w' (some g) ∧ Blk w' g 25 [.int .i64 k] := by
  have hlt : g < w.heap.size := hb.lt
  have h0 : w.cell? ⟨0, 0, none⟩ = some (.iface 185 (.agg #[.pointer (some ⟨1, 70, none⟩)])) := hG
  have hz := World.block_lt_of_cell? _ _ h0
  have y1 := x123
  have y2 := x124
  have y3 := x125
  have y4 := x146
  have y5 := x162
  have y6 := x163
  have y7 := x99
  have y8 := x160
  have y9 := x129
  have y10 := x130
  have f1 := Tryd.valueOfPK
  have f2 := Tryd.typePK
  have f3 := Tryd.methodKind
  have f4 := Tryd.kindPK
  have f5 := Tryd.kindK
  have f6 := Tryd.methodElem
  have f7 := Tryd.methodImplements
  have f8 := Tryd.methodAssignableTo
  have f9 := Tryd.elemPK
  have f10 := Tryd.implementsK
  have f11 := Tryd.typeOfK
  have f12 := Tryd.assignableKK
  have f13 := Tryd.valueOfK
  have f14 := Tryd.isNilPK
  have el := Tryd.elemVPK ⟨w.heap.size, 0, none⟩ ⟨g, 0, none⟩ (((w.alloc (.cells #[.pointer (some ⟨g, 0, none⟩)] 143)).alloc (.cells #[.pointer (some ⟨1, 143, none⟩), .pointer (some ⟨w.heap.size, 0, none⟩), .int .u64 150] 177)).alloc (.cells #[.pointer (some ⟨1, 143, none⟩), .pointer (some ⟨w.heap.size, 0, none⟩), .int .u64 150] 177))
    (by rw [World.cell?_alloc_lt _ _ ⟨w.heap.size, 0, none⟩ (by simp; omega), World.cell?_alloc_lt _ _ ⟨w.heap.size, 0, none⟩ (by simp)]; simp)
  have st := Tryd.setK ⟨g, 0, none⟩ ⟨w.heap.size + 1 + 1 + 1, 0, none⟩ k old ((((w.alloc (.cells #[.pointer (some ⟨g, 0, none⟩)] 143)).alloc (.cells #[.pointer (some ⟨1, 143, none⟩), .pointer (some ⟨w.heap.size, 0, none⟩), .int .u64 150] 177)).alloc (.cells #[.pointer (some ⟨1, 143, none⟩), .pointer (some ⟨w.heap.size, 0, none⟩), .int .u64 150] 177)).alloc (.cells #[.int .i64 k] 25))
    (by rw [World.cell?_alloc_at _ _ _ _ (by simp)]; rfl)
    (by rw [((((hb.alloc _).alloc _).alloc _).alloc _).cell 0]; rfl)
    (((((hb.alloc _).alloc _).alloc _).alloc _).frozen 0)
  have hc := hb.cell 0
  have hf := hb.frozen 0
  simp only [List.getElem?_cons_zero] at hc
  go_enter Tryd.func75, Tryd.ntmps75
  go_wp2
  refine wp_loop_rounds 1 ?_
  rw [rounds_succ]
  go_wp2
  go_ret
  exact ⟨rfl, only_setCell (only_alloc (only_alloc (only_alloc (only_alloc (World.grownBy.refl w _) _) _) _) _) (.inl rfl) _, ((((hb.alloc _).alloc _).alloc _).alloc _).set_ 0 _⟩


set_option maxHeartbeats 4000000 in
set_option maxRecDepth 100000 in
theorem as_K_miss (k : Int) (g : Nat) (old : Value) (w : World) (hG : GE w) (hb : Blk w g 138 [old]) :
    Calls Tryd.prog 75 #[.iface 25 (.int .i64 k), .iface 140 (.pointer (some ⟨g, 0, none⟩))] w fun ev w' => ev = .returned (.bool false) ∧ Below w.heap.size w w' := by
  have hlt : g < w.heap.size := hb.lt
  have h0 : w.cell? ⟨0, 0, none⟩ = some (.iface 185 (.agg #[.pointer (some ⟨1, 70, none⟩)])) := hG
  have hz := World.block_lt_of_cell? _ _ h0
  have y1 := x123
  have y2 := x124
  have y3 := x125
  have y4 := x146
  have y5 := x162
  have y6 := x163
  have y7 := x99
  have y8 := x160
  have y9 := x129
  have y10 := x130
  have f1 := Tryd.valueOfPP
  have f2 := Tryd.typePP
  have f3 := Tryd.methodKind
  have f4 := Tryd.kindPP
  have f5 := Tryd.kindP
  have f6 := Tryd.methodElem
  have f7 := Tryd.methodImplements
  have f8 := Tryd.methodAssignableTo
  have f9 := Tryd.elemPP
  have f10 := Tryd.implementsP
  have f11 := Tryd.typeOfK
  have f12 := Tryd.assignableKP
  have n1 := Tryd.noAsK
  have n2 := Tryd.noUnwrapK
  have n3 := Tryd.noUnwrapsK
  have f14 := Tryd.isNilPP
  have hc := hb.cell 0
  have hf := hb.frozen 0
  simp only [List.getElem?_cons_zero] at hc
  go_enter Tryd.func75, Tryd.ntmps75
  go_wp2
  refine wp_loop_rounds 1 ?_
  rw [rounds_succ]
  go_wp2
  go_ret
  exact ⟨rfl, (((Below.refl _ _).alloc (Nat.le_refl _) _).alloc (by simp) _).alloc (by simp; omega) _⟩

end Go.Proofs.YtljmklohgpaopaaDoor
