/- The walk of sums.Root. -/
import Derived.Test.YtdiainkokgpldaaDoorTreeB
namespace Go.Proofs.YtdiainkokgpldaaDoor
open Go.RowKit

/-- The address leads to a row of slices that read as these texts. -/
def BB (w : World) (A : Option Addr) (ls : List (List UInt8)) : Prop :=
  ls = [] ∨ ∃ b off, A = some ⟨b, off, none⟩ ∧ ∀ (i : Nat) l, ls[i]? = some l → l.length ≤ 140737488351232 ∧ ∃ A' cap, l.length ≤ cap ∧ w.cell? ⟨b, off + i, none⟩ = some (.slice A' l.length cap) ∧ BytesAt w A' l
theorem BB.keep {w w' : World} {A : Option Addr} {ls : List (List UInt8)} (h : BB w A ls) (hb : Below w.heap.size w w') : BB w' A ls := by
  rcases h with h | ⟨b, off, rfl, h⟩
  · exact .inl h
  · refine .inr ⟨b, off, rfl, fun i l hl => ?_⟩
    obtain ⟨h1, A', cap, h2, h3, h4⟩ := h i l hl
    exact ⟨h1, A', cap, h2, below_keeps hb _ _ h3, h4.keep hb⟩
theorem BB.take {w : World} {A : Option Addr} {ls : List (List UInt8)} (h : BB w A ls) (k : Nat) : BB w A (ls.take k) := by
  rcases h with rfl | ⟨b, off, rfl, h⟩
  · exact .inl (by simp)
  · refine .inr ⟨b, off, rfl, fun i l hl => ?_⟩
    rw [List.getElem?_take] at hl
    split at hl
    · exact h i l hl
    · cases hl
theorem BB.drop {w : World} {b off : Nat} {ls : List (List UInt8)} (h : BB w (some ⟨b, off, none⟩) ls) (k : Nat) : BB w (some ⟨b, off + k, none⟩) (ls.drop k) := by
  rcases h with rfl | ⟨b', off', e, h⟩
  · exact .inl (by simp)
  · cases e
    refine .inr ⟨_, _, rfl, fun i l hl => ?_⟩
    rw [List.getElem?_drop] at hl
    rw [Nat.add_assoc]
    exact h _ l hl
theorem BB.addr {w : World} {A : Option Addr} {ls : List (List UInt8)} (h : BB w A ls) (hn : 0 < ls.length) : ∃ b off, A = some ⟨b, off, none⟩ := by
  rcases h with rfl | ⟨b, off, rfl, _⟩
  · simp at hn
  · exact ⟨b, off, rfl⟩
theorem BB.at_ {w : World} {b off : Nat} {ls : List (List UInt8)} (h : BB w (some ⟨b, off, none⟩) ls) (i : Nat) (l : List UInt8) (hl : ls[i]? = some l) :
    l.length ≤ 140737488351232 ∧ ∃ A' cap, l.length ≤ cap ∧ w.cell? ⟨b, off + i, none⟩ = some (.slice A' l.length cap) ∧ BytesAt w A' l := by
  rcases h with rfl | ⟨b', off', e, h⟩
  · simp at hl
  · cases e
    exact h i l hl

theorem undrew {B : Nat} {a w : World} (h : Below B a.drew w) : Below B a w := ⟨h.os, h.tape, h.output, h.size, h.block⟩
theorem nil_bytes (w : World) : BytesAt w none [] := .inl rfl

theorem Blk.set4 {w : World} {g : Nat} {t : TypeId} {a0 a1 a2 a3 : Value} (h : Blk w g t [a0, a1, a2, a3]) (x0 x1 x2 x3 : Value) :
    Blk ((((w.setCell ⟨g, 0, none⟩ x0).setCell ⟨g, 1, none⟩ x1).setCell ⟨g, 2, none⟩ x2).setCell ⟨g, 3, none⟩ x3) g t [x0, x1, x2, x3] :=
  (((h.set_ 0 x0).set_ 1 x1).set_ 2 x2).set_ 3 x3
theorem below_set4 {B : Nat} {a w : World} (h : Below B a w) {g : Nat} (hg : B ≤ g) (x0 x1 x2 x3 : Value) :
    Below B a ((((w.setCell ⟨g, 0, none⟩ x0).setCell ⟨g, 1, none⟩ x1).setCell ⟨g, 2, none⟩ x2).setCell ⟨g, 3, none⟩ x3) :=
  (((h.setCell hg x0).setCell hg x1).setCell hg x2).setCell hg x3
theorem loadVar_hash (w : World) (g n : Nat) (h : Blk w g 89 (hc n)) : (loadVar 89 ⟨g, 0, none⟩).run Tryd.prog w = .ok (hashVal n) w := by
  have c0 := h.cell 0
  have c1 := h.cell 1
  have c2 := h.cell 2
  have c3 := h.cell 3
  simp only [hc, List.getElem?_cons_succ, List.getElem?_cons_zero] at c0 c1 c2 c3
  simp [go_sem, c0, c1, c2, c3, hashVal]

theorem results_hash {fn : Func} {t : Tmp} {tmps : Array Value} {w : World} {g n : Nat} (h : fn.results = #[.cell t 89]) (ht : tmps.getD t undef = .pointer (some ⟨g, 0, none⟩)) (hB : Blk w g 89 (hc n)) :
    (results fn tmps).run Tryd.prog w = .ok (hashVal n) w := by
  have hl := loadVar_hash w g n hB
  simp only [Array.getD_eq_getD_getElem?] at ht
  simp [results, h, ht, hl, asAddr]

set_option maxHeartbeats 2000000 in
theorem root_zero (A : Option Addr) (cap : Nat) (w : World) :
    Calls Tryd.prog 40 #[.slice A 0 cap] w fun e w' => e = .returned (hashVal (Pl.root [])) ∧ Below w.heap.size w w' := by
  rw [Pl.root_nil]
  go_enter Tryd.func40, Tryd.ntmps40
  go_wp2_with fail
  refine (sum_any none 0 [] _ (nil_bytes _) (by simp)).mono ?_
  rintro e w1 ⟨rfl, hb1⟩
  unfold hashVal
  have B := (Blk.new w 89 [.int .u8 0, .int .u8 0, .int .u8 0, .int .u8 0]).below hb1 (by simp)
  have c0 := B.cell 0
  have c1 := B.cell 1
  have c2 := B.cell 2
  have c3 := B.cell 3
  have f0 := B.frozen 0
  have f1 := B.frozen 1
  have f2 := B.frozen 2
  have f3 := B.frozen 3
  simp only [List.getElem?_cons_succ, List.getElem?_cons_zero] at c0 c1 c2 c3
  have B' := Lib.hid B
  have H1 := Lib.hid hb1
  clear B hb1
  go_wp2_with fail
  refine bodyPost_ret (v := hashVal (Pl.sumN [])) (results_hash rfl rfl (B'.out.set4 _ _ _ _)) rfl ⟨rfl, ?_⟩
  exact below_set4 (((Below.refl _ _).alloc (Nat.le_refl _) _).trans (H1.out.mono (by simp))) (Nat.le_refl _) _ _ _ _

theorem facts4 {w : World} {g : Nat} {t : TypeId} {a0 a1 a2 a3 : Value} (h : Blk w g t [a0, a1, a2, a3]) :
    w.cell? ⟨g, 0, none⟩ = some a0 ∧ w.cell? ⟨g, 1, none⟩ = some a1 ∧ w.cell? ⟨g, 2, none⟩ = some a2 ∧ w.cell? ⟨g, 3, none⟩ = some a3 ∧
    w.frozen? ⟨g, 0, none⟩ = false ∧ w.frozen? ⟨g, 1, none⟩ = false ∧ w.frozen? ⟨g, 2, none⟩ = false ∧ w.frozen? ⟨g, 3, none⟩ = false :=
  ⟨h.cell 0, h.cell 1, h.cell 2, h.cell 3, h.frozen 0, h.frozen 1, h.frozen 2, h.frozen 3⟩
theorem Blk.hash0 (w : World) : Blk (w.alloc (.cells #[.int .u8 0, .int .u8 0, .int .u8 0, .int .u8 0] 89)) w.heap.size 89 [.int .u8 0, .int .u8 0, .int .u8 0, .int .u8 0] := Blk.new w _ _

set_option maxHeartbeats 2000000 in
theorem root_single (l : List UInt8) (b off cap : Nat) (w : World) (hb : BB w (some ⟨b, off, none⟩) [l]) :
    Calls Tryd.prog 40 #[.slice (some ⟨b, off, none⟩) 1 cap] w fun e w' => e = .returned (hashVal (Pl.root [l])) ∧ Below w.heap.size w w' := by
  rw [Pl.root_one]
  obtain ⟨hl, A', cap', hcap, hc, hbs⟩ := hb.at_ 0 l rfl
  have hlt := World.block_lt_of_cell? _ _ hc
  simp only [Nat.add_zero] at hc
  have hbs1 := hbs.keep (w' := w.alloc (.cells #[.int .u8 0, .int .u8 0, .int .u8 0, .int .u8 0] 89)) ((Below.refl _ _).alloc (Nat.le_refl _) _)
  go_enter Tryd.func40, Tryd.ntmps40
  go_wp2_with fail
  refine (leaf_any A' cap' l _ hbs1 hl).mono ?_
  rintro e w1 ⟨A2, cap2, rfl, hb2, hbel1⟩
  go_wp2_with fail
  refine (sum_any A2 cap2 (0 :: l) _ hb2 (by simp; omega)).mono ?_
  rintro e w2 ⟨rfl, hbel2⟩
  unfold hashVal
  have hB := (((Blk.hash0 w).below hbel1 (by simp)).below hbel2 (by have := hbel1.size; simp at this; omega))
  have H : Below w.heap.size w w2 := (((Below.refl _ _).alloc (Nat.le_refl _) _).trans (hbel1.mono (by simp))).trans (hbel2.mono (by have := hbel1.size; simp at this; omega))
  have H' := Lib.hid H
  obtain ⟨c0, c1, c2, c3, f0, f1, f2, f3⟩ := facts4 hB
  have hB' := Lib.hid hB
  clear hB hbel1 hbel2 H hbs1 hbs hb hb2
  go_wp2_with fail
  refine bodyPost_ret (v := hashVal (Pl.sumN (0 :: l))) (results_hash rfl rfl (hB'.out.set4 _ _ _ _)) rfl ⟨rfl, ?_⟩
  exact below_set4 H'.out (Nat.le_refl _) _ _ _ _

theorem root_join (w w1 w2 w3 w4 : World) (o : Obj) (h1 : Below (w.alloc o).heap.size (w.alloc o) w1) (h2 : Below w1.heap.size w1 w2) (h3 : Below w2.heap.size w2 w3) (h4 : Below w3.heap.size w3 w4) :
    Below (w.alloc o).heap.size (w.alloc o) w4 ∧ Below w.heap.size w w4 := by
  have h12 := h1.trans (h2.mono h1.size)
  have h13 := h12.trans (h3.mono h12.size)
  have h14 := h13.trans (h4.mono h13.size)
  exact ⟨h14, ((Below.refl _ _).alloc (Nat.le_refl _) _).trans (h14.mono (by simp))⟩

set_option maxHeartbeats 4000000 in
theorem root_step (ls : List (List UInt8)) (b off cap : Nat) (w : World) (hn : 2 ≤ ls.length) (hb : BB w (some ⟨b, off, none⟩) ls) (hc : ls.length ≤ cap) (hm : ls.length ≤ 4611686018427387903)
    (ih : ∀ (ls' : List (List UInt8)) (A : Option Addr) (cap : Nat) (w : World), ls'.length < ls.length → BB w A ls' → ls'.length ≤ cap →
      Calls Tryd.prog 40 #[.slice A ls'.length cap] w fun e w' => e = .returned (hashVal (Pl.root ls')) ∧ Below w.heap.size w w') :
    Calls Tryd.prog 40 #[.slice (some ⟨b, off, none⟩) ls.length cap] w fun e w' => e = .returned (hashVal (Pl.root ls)) ∧ Below w.heap.size w w' := by
  rw [Pl.root_many ls hn]
  obtain ⟨k, hk⟩ : ∃ k, Pl.half ls.length = k := ⟨_, rfl⟩
  have hk1 := Pl.half_pos ls.length
  have hk2 := Pl.half_lt hn
  rw [hk] at hk1 hk2 ⊢
  have hT : ∀ W, BB W (some ⟨b, off, none⟩) (ls.take k) → Calls Tryd.prog 40 #[.slice (some ⟨b, off, none⟩) k cap] W fun e w' => e = .returned (hashVal (Pl.root (ls.take k))) ∧ Below W.heap.size W w' := by
    intro W hW
    have := ih (ls.take k) (some ⟨b, off, none⟩) cap W (by simp; omega) hW (by simp; omega)
    rwa [List.length_take, Nat.min_eq_left (Nat.le_of_lt hk2)] at this
  have hD : ∀ W, BB W (some ⟨b, off + k, none⟩) (ls.drop k) → Calls Tryd.prog 40 #[.slice (some ⟨b, off + k, none⟩) (ls.length - k) (cap - k)] W fun e w' => e = .returned (hashVal (Pl.root (ls.drop k))) ∧ Below W.heap.size W w' := by
    intro W hW
    have := ih (ls.drop k) (some ⟨b, off + k, none⟩) (cap - k) W (by simp; omega) hW (by simp; omega)
    rwa [List.length_drop] at this
  have ht := Lib.hid (hb.take k)
  have hd := Lib.hid (hb.drop k)
  have HT := Lib.hid hT
  have HD := Lib.hid hD
  have HK := Lib.hid hk
  obtain ⟨n, hnn⟩ : ∃ n, ls.length = n := ⟨_, rfl⟩
  rw [hnn] at hn hc hm hk2 ⊢
  have HN := Lib.hid hnn
  have q0 : ((n : Int) == 0) = false := by simp; omega
  have q1 : ((n : Int) == 1) = false := by simp; omega
  clear hT hD hk ih hb hnn
  go_enter Tryd.func40, Tryd.ntmps40
  go_wp2_with fail
  refine (half_any n _ (by omega) (by omega)).mono ?_
  rintro e w' ⟨rfl, rfl⟩
  rw [← HN.out, HK.out]
  have ht1 := Lib.hid (ht.out.keep (w' := w.alloc (.cells #[.int .u8 0, .int .u8 0, .int .u8 0, .int .u8 0] 89)) ((Below.refl _ _).alloc (Nat.le_refl _) _))
  have hd1 := Lib.hid (hd.out.keep (w' := w.alloc (.cells #[.int .u8 0, .int .u8 0, .int .u8 0, .int .u8 0] 89)) ((Below.refl _ _).alloc (Nat.le_refl _) _))
  have hB0 := Lib.hid (Blk.hash0 w)
  have hlt : k < cap := by have := HN.out; omega
  have hlc : ls.length ≤ cap := by have := HN.out; omega
  have hkl : k ≤ ls.length := by have := HN.out; omega
  have hx0 : (0 : Int) ≤ (k : Int) := by omega
  have hx1 : (k : Int) ≤ (cap : Int) := by omega
  have hx2 : (k : Int) ≤ (ls.length : Int) := by omega
  have hx3 : ¬ cap = k := by omega
  have hr1 := Pl.root_lt (ls.take k)
  have hr2 := Pl.root_lt (ls.drop k)
  go_wp2_with fail
  go_region_held3 (fun _ => True) (trivial) (first
    | (go_at_call 40; (with_reducible refine (HT.out _ ?_).mono ?_); exact ht1.out; rintro e w1 ⟨rfl, hb1'⟩; have hb1 := undrew hb1')
    | (go_at_call 40; (with_reducible refine (HD.out _ ?_).mono ?_); exact hd1.out.keep hb1; rintro e w2 ⟨rfl, hb2⟩)
    | (go_at_call 74; refine (node_any _ _ _ (by omega) (by omega)).mono ?_; rintro e w3 ⟨A3, cap3, rfl, hb3, hbel3⟩)
    | (go_at_call 47; refine (sum_any _ _ (1 :: (Pl.be 4 (Pl.root (ls.take k)) ++ Pl.be 4 (Pl.root (ls.drop k)))) _ hb3 (by simp [Pl.be_length])).mono ?_; rintro e w4 ⟨rfl, hbel4⟩
       have hall := root_join w w1 w2 w3 w4 _ hb1 hb2 hbel3 hbel4
       have hB4 := hB0.out.below hall.1 (by simp)
       obtain ⟨c0, c1, c2, c3, f0, f1, f2, f3⟩ := facts4 hB4
       have hB' := Lib.hid hB4
       have hall' := Lib.hid hall.2
       clear hB4 hall hb1 hb1' hb2 hbel3 hbel4 hb3
       unfold hashVal))
  go_wp2
  refine bodyPost_ret (v := hashVal (Pl.sumN (1 :: (Pl.be 4 (Pl.root (ls.take k)) ++ Pl.be 4 (Pl.root (ls.drop k)))))) (results_hash rfl rfl (hB'.out.set4 _ _ _ _)) rfl ⟨rfl, ?_⟩
  exact below_set4 hall'.out (Nat.le_refl _) _ _ _ _

theorem root_any (n : Nat) : ∀ (ls : List (List UInt8)) (A : Option Addr) (cap : Nat) (w : World), ls.length ≤ n → BB w A ls → ls.length ≤ cap → ls.length ≤ 4611686018427387903 →
    Calls Tryd.prog 40 #[.slice A ls.length cap] w fun e w' => e = .returned (hashVal (Pl.root ls)) ∧ Below w.heap.size w w' := by
  induction n with
  | zero =>
    intro ls A cap w hn hb hc hm
    obtain rfl : ls = [] := List.eq_nil_of_length_eq_zero (by omega)
    exact root_zero A cap w
  | succ n ih =>
    intro ls A cap w hn hb hc hm
    match ls, hn, hb, hc, hm with
    | [], _, _, _, _ => exact root_zero A cap w
    | [l], _, hb, _, _ =>
      obtain ⟨b, off, rfl⟩ := hb.addr (by simp)
      exact root_single l b off cap w hb
    | x :: y :: r, hn, hb, hc, hm =>
      obtain ⟨b, off, rfl⟩ := hb.addr (by simp)
      exact root_step (x :: y :: r) b off cap w (by simp) hb hc hm (fun ls' A cap w h1 h2 h3 => ih ls' A cap w (by omega) h2 h3 (by omega))
end Go.Proofs.YtdiainkokgpldaaDoor
