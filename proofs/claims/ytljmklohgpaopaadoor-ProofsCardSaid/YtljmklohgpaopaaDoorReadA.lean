/- The walks of the codec's Reader: Take, Num; octets.Get of bytes. -/
import Derived.Test.YtljmklohgpaopaaDoorTreeC
import Derived.Test.YtljmklohgpaopaaDoorFrame
import Derived.Test.YtljmklohgpaopaaDoorPlainProof
namespace Go.Proofs.YtljmklohgpaopaaDoor
open Go.RowKit

/-- A reader: what is left, and is it bad? -/
def Rdr (w : World) (g : Nat) (l : List UInt8) (bad : Bool) : Prop :=
  ∃ A cap, l.length ≤ cap ∧ l.length ≤ 140737488351232 ∧ Blk w g 153 [.slice A l.length cap, .bool bad] ∧ BytesAt w A l ∧ ∀ p, A = some p → p.block < g
theorem BytesAt.cut {w : World} {A : Option Addr} {l : List UInt8} (h : BytesAt w A l) (n cap : Nat) (hn : n ≤ l.length) (hc : l.length ≤ cap) : BytesAt w (if cap = n then A else A.map (·.add n)) (l.drop n) := by
  by_cases hcn : cap = n
  · rw [if_pos hcn]
    exact .inl (List.drop_eq_nil_of_le (by omega))
  · rw [if_neg hcn]
    rcases h with rfl | ⟨b, off, rfl, h⟩
    · exact .inl (by simp)
    · refine .inr ⟨b, off + n, by simp [addr_add], fun i hi => ?_⟩
      rw [List.length_drop] at hi
      rw [List.getElem_drop, Nat.add_assoc]
      exact h (n + i) (by omega)
theorem BytesAt.head {w : World} {A : Option Addr} {l : List UInt8} (h : BytesAt w A l) (n : Nat) : BytesAt w A (l.take n) := by
  rcases h with rfl | ⟨b, off, rfl, h⟩
  · exact .inl (by simp)
  · refine .inr ⟨b, off, rfl, fun i hi => ?_⟩
    rw [List.length_take] at hi
    rw [List.getElem_take]
    exact h i (by omega)
theorem cut_block {A : Option Addr} {n cap g : Nat} (h : ∀ p, A = some p → p.block < g) : ∀ p, (if cap = n then A else A.map (·.add n)) = some p → p.block < g := by
  intro p hp
  split at hp
  · exact h p hp
  · cases A with
    | none => simp at hp
    | some q =>
      simp only [Option.map_some, Option.some.injEq] at hp
      subst hp
      obtain ⟨b, o, pt⟩ := q
      have := h _ rfl
      unfold Addr.add
      split <;> exact this

theorem below_block {w w' : World} {g : Nat} (hl : g < w.heap.size) (h : Only (· = g) w w') {A : Option Addr} {l : List UInt8} (hb : BytesAt w A l) (hA : ∀ p, A = some p → p.block < g) : BytesAt w' A l :=
  h.bytes hb (fun p hp he => by have := hA p hp; omega)
theorem Rdr.put {w w' : World} {g : Nat} {A : Option Addr} {l : List UInt8} {m cap : Nat} {bad : Bool} (hlt : g < w.heap.size) (h : Only (· = g) w w') (hB : Blk w' g 153 [.slice A m cap, .bool bad]) (hm : l.length = m) (hc : m ≤ cap) (hm2 : m ≤ 140737488351232)
    (hb : BytesAt w A l) (hA : ∀ p, A = some p → p.block < g) : Rdr w' g l bad := by
  subst hm
  exact ⟨A, cap, hc, hm2, hB, below_block hlt h hb hA, hA⟩

set_option maxHeartbeats 1000000 in
theorem take_enough (g n : Nat) (l : List UInt8) (bad : Bool) (w : World) (h : Rdr w g l bad) (hn : n ≤ l.length) :
    Calls Tryd.prog 83 #[.pointer (some ⟨g, 0, none⟩), .int .i64 n] w fun e w' => ∃ A, e = .returned (.slice A n n) ∧ BytesAt w' A (l.take n) ∧ (∀ p, A = some p → p.block < g) ∧ Rdr w' g (l.drop n) bad ∧ w.grownBy w' (some g) := by
  obtain ⟨A, cap, hc, hm, hB, hb, hA⟩ := h
  obtain ⟨m, hlm⟩ : ∃ m, l.length = m := ⟨_, rfl⟩
  have hlt := hB.lt
  rw [hlm] at hB hc hm hn
  have hcut := Lib.hid (hb.cut n cap (by omega) (by omega))
  have hblk := Lib.hid (cut_block (n := n) (cap := cap) hA)
  have hB' := Lib.hid hB
  have c0 := hB.cell 0
  have f0 := hB.frozen 0
  simp only [List.getElem?_cons_zero] at c0
  have HL := Lib.hid (show (l.drop n).length = m - n by rw [List.length_drop, hlm])
  have hx1 : ¬ (m : Int) < n := by omega
  have hx2 : ¬ m < n := by omega
  have hx3 : (0 : Int) ≤ (n : Int) := by omega
  have hx4 : (n : Int) ≤ (m : Int) := by omega
  have hx5 : (n : Int) ≤ (cap : Int) := by omega
  have hfin : ∀ A', (∀ p, A' = some p → p.block < g) → BytesAt w A' (l.drop n) → Rdr (w.setCell ⟨g, 0, none⟩ (.slice A' (m - n) (cap - n))) g (l.drop n) bad ∧ w.grownBy (w.setCell ⟨g, 0, none⟩ (.slice A' (m - n) (cap - n))) (some g) ∧ BytesAt (w.setCell ⟨g, 0, none⟩ (.slice A' (m - n) (cap - n))) A (l.take n) := by
    intro A' h1 h2
    have ho := (Only.refl (· = g) w).setCell (p := ⟨g, 0, none⟩) (.inl rfl) (.slice A' (m - n) (cap - n))
    exact ⟨Rdr.put hlt ho (hB.set_ 0 _) HL.out (by omega) (by omega) h2 h1, ho.to_grown, below_block hlt ho (hb.head n) hA⟩
  have HF := Lib.hid hfin
  clear hB hlm hfin hb
  go_enter Tryd.func83, Tryd.ntmps83
  go_wp2_with fail
  all_goals
    go_ret
    have h1 := hcut.out
    have h2 := hblk.out
    first
      | (rw [if_neg (by assumption)] at h1 h2
         obtain ⟨k1, k2, k3⟩ := HF.out _ h2 h1
         exact ⟨A, rfl, k3, hA, k1, k2⟩)
      | (rw [if_pos (by omega)] at h1 h2
         obtain ⟨k1, k2, k3⟩ := HF.out _ h2 h1
         rw [show cap - n = 0 by omega] at k1 k2 k3
         exact ⟨A, rfl, k3, hA, k1, k2⟩)

set_option maxHeartbeats 1000000 in
theorem take_short (g n : Nat) (l : List UInt8) (bad : Bool) (w : World) (h : Rdr w g l bad) (hn : l.length < n) (hn2 : n ≤ 9223372036854775807) :
    Calls Tryd.prog 83 #[.pointer (some ⟨g, 0, none⟩), .int .i64 n] w fun e w' => ∃ A, e = .returned (.slice A l.length l.length) ∧ BytesAt w' A l ∧ (∀ p, A = some p → p.block < g) ∧ Rdr w' g [] true ∧ w.grownBy w' (some g) := by
  obtain ⟨A, cap, hc, hm, hB, hb, hA⟩ := h
  obtain ⟨m, hlm⟩ : ∃ m, l.length = m := ⟨_, rfl⟩
  have hlt := hB.lt
  rw [hlm] at hB hc hm hn ⊢
  have hblk := Lib.hid (cut_block (n := m) (cap := cap) hA)
  have c0 := hB.cell 0
  have f0 := hB.frozen 0
  have c1 := hB.cell 1
  have f1 := hB.frozen 1
  simp only [List.getElem?_cons_zero, List.getElem?_cons_succ] at c0 c1
  have hx1 : (m : Int) < n := by omega
  have hx2 : m < n := by omega
  have hx5 : (m : Int) ≤ (cap : Int) := by omega
  have hfin : ∀ A', (∀ p, A' = some p → p.block < g) → Rdr ((w.setCell ⟨g, 1, none⟩ (.bool true)).setCell ⟨g, 0, none⟩ (.slice A' 0 (cap - m))) g [] true ∧ w.grownBy ((w.setCell ⟨g, 1, none⟩ (.bool true)).setCell ⟨g, 0, none⟩ (.slice A' 0 (cap - m))) (some g) ∧
      BytesAt ((w.setCell ⟨g, 1, none⟩ (.bool true)).setCell ⟨g, 0, none⟩ (.slice A' 0 (cap - m))) A l := by
    intro A' h1
    have ho := ((Only.refl (· = g) w).setCell (p := ⟨g, 1, none⟩) (.inl rfl) (.bool true)).setCell (p := ⟨g, 0, none⟩) (.inl rfl) (.slice A' 0 (cap - m))
    exact ⟨Rdr.put hlt ho ((hB.set_ 1 _).set_ 0 _) rfl (by omega) (by omega) (.inl rfl) h1, ho.to_grown, below_block hlt ho hb hA⟩
  have HF := Lib.hid hfin
  clear hB hlm hfin hb
  go_enter Tryd.func83, Tryd.ntmps83
  go_wp2_with fail
  all_goals
    go_ret
    have h2 := hblk.out
    first
      | (rw [if_neg (by assumption)] at h2
         obtain ⟨k1, k2, k3⟩ := HF.out _ h2
         exact ⟨A, rfl, k3, hA, k1, k2⟩)
      | (rw [if_pos (by omega)] at h2
         obtain ⟨k1, k2, k3⟩ := HF.out _ h2
         rw [show cap - m = 0 by omega] at k1 k2 k3
         exact ⟨A, rfl, k3, hA, k1, k2⟩)

theorem take_any (g n : Nat) (l : List UInt8) (bad : Bool) (w : World) (h : Rdr w g l bad) (hn2 : n ≤ 9223372036854775807) :
    Calls Tryd.prog 83 #[.pointer (some ⟨g, 0, none⟩), .int .i64 n] w fun e w' => ∃ A, e = .returned (.slice A (l.take n).length (l.take n).length) ∧ BytesAt w' A (l.take n) ∧ (∀ p, A = some p → p.block < g) ∧ Rdr w' g (l.drop n) (bad || decide (l.length < n)) ∧ w.grownBy w' (some g) := by
  by_cases hn : n ≤ l.length
  · refine (take_enough g n l bad w h hn).mono ?_
    rintro e w' ⟨A, rfl, h1, h2, h3, h4⟩
    refine ⟨A, by rw [List.length_take, Nat.min_eq_left hn], h1, h2, ?_, h4⟩
    rw [decide_eq_false (by omega), Bool.or_false]
    exact h3
  · refine (take_short g n l bad w h (by omega) hn2).mono ?_
    rintro e w' ⟨A, rfl, h1, h2, h3, h4⟩
    have ht : l.take n = l := List.take_of_length_le (by omega)
    refine ⟨A, by rw [ht], by rw [ht]; exact h1, h2, ?_, h4⟩
    rw [decide_eq_true (by omega), Bool.or_true, List.drop_eq_nil_of_le (by omega)]
    exact h3

theorem or_byte (a c : Nat) (h : a < 72057594037927936) (hc : c < 256) : bits .or .u64 ((a : Int) * 256) (c : Int) = ((256 * a + c : Nat) : Int) := by
  rw [bits_join .u64 64 (by decide) (fun n h0 h1 => by rw [IntKind.wrap_u64]; omega) 8 _ _ (by omega) (by omega) (by omega) (by omega) (by omega) (by omega)]
  omega
set_option maxHeartbeats 1000000 in
theorem get_any (A : Option Addr) (cap : Nat) (l : List UInt8) (w : World) (hb : BytesAt w A l) (hl : l.length ≤ 8) :
    Calls Tryd.prog 82 #[.slice A l.length cap] w fun e w' => e = .returned (.int .u64 (Pl.num l : Nat)) ∧ w = w' := by
  go_enter Tryd.func82, Tryd.ntmps82
  go_wp2_with fail
  go_loop [3, 7] (fun v i => ∃ k : Nat, k ≤ l.length ∧ i = .int .i64 k ∧ v = .int .u64 (Pl.num (l.take k) : Nat)) (fun _ i => l.length - (intOf i).toNat)
  case atStart => exact ⟨0, Nat.zero_le _, rfl, rfl⟩
  case round =>
    obtain ⟨k, hk, rfl, rfl⟩ := hrel
    by_cases hlt : k < l.length
    · obtain ⟨b, off, rfl, hcell⟩ : ∃ b off, A = some ⟨b, off, none⟩ ∧ w.cell? ⟨b, off + k, none⟩ = some (.int .u8 (l[k].toNat : Int)) := by
        rcases hb with h | ⟨b, off, e, h⟩
        · subst h; simp at hlt
        · exact ⟨b, off, e, h k hlt⟩
      have hn1 := Pl.num_take_lt l k
      have hn2 : Pl.num (l.take k) < 72057594037927936 := Nat.lt_of_lt_of_le hn1 (Nat.pow_le_pow_right (n := 256) (j := 7) (by decide) (by omega))
      have hc := l[k].toNat_lt
      have hnext : Hid (Pl.num (l.take (k + 1)) = 256 * Pl.num (l.take k) + l[k].toNat) := by rw [Hid, take_snoc l k hlt, Pl.num_snoc]
      obtain ⟨c, hcc⟩ : ∃ c, l[k].toNat = c := ⟨_, rfl⟩
      obtain ⟨v, hv⟩ : ∃ v, Pl.num (l.take k) = v := ⟨_, rfl⟩
      have hnext' : Hid (Pl.num (l.take (k + 1)) = 256 * v + c) := by rw [← hv, ← hcc]; exact hnext
      rw [hcc] at hcell hc
      rw [hv] at hn2 ⊢
      clear hn1 hnext hcc hv
      go_wp2_with fail
      refine ⟨⟨k + 1, by omega, by simp, ?_⟩, by simp [intOf]; omega⟩
      rw [hnext'.out, or_byte v c hn2 (by omega)]
    · obtain rfl : k = l.length := by omega
      rw [List.take_length]
      go_wp2_with fail
      go_ret
      exact ⟨rfl, rfl⟩
end Go.Proofs.YtljmklohgpaopaaDoor
