/- Plain facts on evidence: how it is taken apart, what it must be; no program in sight. The walks of the codec's Reader: Take, Num; octets.Get of bytes. The walks of the codec's Reader: Num; of the chain's hash, hashes. Laws over any program: append onto a row of the call's own, or onto a slice that has no room. The walks of octets.Put, bytes.Equal, chain.Hash, chain.header, the harness's four. The walks of the reference's Path and Deep, and of sums.Depth. The walk of the reference's Climb. The walks of bytes.Equal, chain.Hash, the harness's four, the reference's Extends. Plain: a disk whose power may fail; a log on it: what the functions compute. No program in sight. -/
import Derived.Test.YtljmklohgpaopaaGreatDoorMgClashes2
import Derived.Test.YtljmklohgpaopaaGreatDoorMgClashes1
import Derived.Deep.Cut
set_option linter.unusedVariables false
set_option linter.unusedSimpArgs false

namespace Go.Proofs.YtljmklohgpaopaaGreatDoor
namespace Pl

/-- What evidence is made of. -/
structure Ev where
  n : List UInt8
  op : List UInt8
  ops : List UInt8
  time : List UInt8
  text : List UInt8
  p : List UInt8
  q : List UInt8
  last : List UInt8
  rest : List UInt8

/-- So many bytes are taken, or there is too little. -/
def bt (m : Nat) (l : List UInt8) (f : List UInt8 → List UInt8 → Option Ev) : Option Ev := if m ≤ l.length then f (l.take m) (l.drop m) else none
/-- How a reader stands: it is bad, and there is no evidence; or the rest tells. -/
def St (o : Option Ev) (bad : Bool) (k : Option Ev) : Prop := (bad = true ∧ o = none) ∨ (bad = false ∧ o = k)
theorem St.start (o : Option Ev) : St o false o := .inr ⟨rfl, rfl⟩
theorem St.take {o : Option Ev} {bad : Bool} {m : Nat} {l : List UInt8} {f : List UInt8 → List UInt8 → Option Ev} (h : St o bad (bt m l f)) : St o (bad || decide (l.length < m)) (f (l.take m) (l.drop m)) := by
  rcases h with ⟨rfl, h⟩ | ⟨rfl, h⟩
  · exact .inl ⟨rfl, h⟩
  · unfold bt at h
    by_cases hm : m ≤ l.length
    · rw [if_pos hm] at h
      exact .inr ⟨by simp; omega, h⟩
    · rw [if_neg hm] at h
      exact .inl ⟨by simp; omega, h⟩
theorem St.bad {o : Option Ev} {k : Option Ev} (h : St o true k) (k' : Option Ev) : St o true k' := by
  rcases h with h | ⟨h, _⟩
  · exact .inl h
  · cases h
theorem St.short {o : Option Ev} {bad : Bool} {m : Nat} {l : List UInt8} {f : List UInt8 → List UInt8 → Option Ev} (h : St o bad (bt m l f)) (hl : l.length < m) (k' : Option Ev) : St o true k' := by
  have := h.take
  rw [decide_eq_true hl, Bool.or_true] at this
  exact this.bad k'

/-- What is laid down of a transaction. -/
def entry (n : Nat) (time : List UInt8) (ops r : Nat) : List UInt8 := be 4 n ++ time ++ [UInt8.ofNat ops] ++ be 4 r
/-- Is it as it must be? -/
def Fits (e : Ev) : Prop := 1 ≤ num e.n ∧ num e.op < num e.ops ∧ num e.ops ≤ 16 ∧ (groups e.p).length = depth (num e.op) (num e.ops) ∧ (groups e.q).length = depth ((num e.n - 1) % 3) 3 ∧
  ((num e.n - 1) / 3 + 1 = 1 → num e.last = 0)
instance (e : Ev) : Decidable (Fits e) := by unfold Fits; infer_instance
theorem snoc_ind {P : List UInt8 → Prop} (h0 : P []) (h1 : ∀ l c, P l → P (l ++ [c])) (l : List UInt8) : P l := by
  have h : ∀ r : List UInt8, P r.reverse := by
    intro r
    induction r with
    | nil => exact h0
    | cons c r ih => rw [List.reverse_cons]; exact h1 _ _ ih
  simpa using h l.reverse
theorem num_snoc (l : List UInt8) (c : UInt8) : num (l ++ [c]) = 256 * num l + c.toNat := by simp [num]
theorem num_lt (l : List UInt8) : num l < 256 ^ l.length := by
  refine snoc_ind (P := fun l => num l < 256 ^ l.length) (by simp [num]) (fun l c ih => ?_) l
  rw [num_snoc, List.length_append, List.length_singleton, Nat.pow_succ]
  have := c.toNat_lt
  omega
theorem num_take_lt (l : List UInt8) (k : Nat) : num (l.take k) < 256 ^ k :=
  Nat.lt_of_lt_of_le (num_lt _) (Nat.pow_le_pow_right (by decide) (by simp; omega))
theorem be_snoc (k v : Nat) : be (k + 1) v = be k (v / 256) ++ [UInt8.ofNat v] := by
  induction k generalizing v with
  | zero => simp [be]
  | succ k ih =>
    rw [be, ih v, be, List.cons_append]
    congr 2
    rw [Nat.div_div_eq_div_mul, Nat.pow_succ, Nat.mul_comm]
theorem be_num (l : List UInt8) : be l.length (num l) = l := by
  refine snoc_ind (P := fun l => be l.length (num l) = l) rfl (fun l c ih => ?_) l
  rw [List.length_append, List.length_singleton, be_snoc, num_snoc]
  have := c.toNat_lt
  rw [show (256 * num l + c.toNat) / 256 = num l by omega, ih]
  congr 2
  apply UInt8.toNat_inj.1
  simp
end Pl
end Go.Proofs.YtljmklohgpaopaaGreatDoor

namespace Go.Proofs.YtljmklohgpaopaaGreatDoor
open Go.RowKit

/-- A reader: what is left, and is it bad? -/
def Rdr (w : World) (g : Nat) (l : List UInt8) (bad : Bool) : Prop :=
  ∃ A cap, l.length ≤ cap ∧ l.length ≤ 140737488351232 ∧ Blk w g 289 [.slice A l.length cap, .bool bad] ∧ BytesAt w A l ∧ ∀ p, A = some p → p.block < g
theorem BytesAt.cut {w : World} {A : Option Addr} {l : List UInt8} (h : BytesAt w A l) (n cap : Nat) (hn : n ≤ l.length) (hc : l.length ≤ cap) : BytesAt w (if cap = n then A else A.map (·.add n)) (l.drop n) := by
  by_cases hcn : cap = n
  · rw [if_pos hcn]
    exact .inl (List.drop_eq_nil_of_le (by omega))
  · rw [if_neg hcn]
    rcases h with rfl | ⟨b, off, rfl, h⟩
    · exact .inl (by simp)
    · refine .inr ⟨b, off + n, by simp [addr_add], fun i hi => ?_⟩
      rw [List.length_drop] at hi
      rw [List.getElem_drop, Nat.add_assoc]
      exact h (n + i) (by omega)
theorem BytesAt.head {w : World} {A : Option Addr} {l : List UInt8} (h : BytesAt w A l) (n : Nat) : BytesAt w A (l.take n) := by
  rcases h with rfl | ⟨b, off, rfl, h⟩
  · exact .inl (by simp)
  · refine .inr ⟨b, off, rfl, fun i hi => ?_⟩
    rw [List.length_take] at hi
    rw [List.getElem_take]
    exact h i (by omega)
theorem cut_block {A : Option Addr} {n cap g : Nat} (h : ∀ p, A = some p → p.block < g) : ∀ p, (if cap = n then A else A.map (·.add n)) = some p → p.block < g := by
  intro p hp
  split at hp
  · exact h p hp
  · cases A with
    | none => simp at hp
    | some q =>
      simp only [Option.map_some, Option.some.injEq] at hp
      subst hp
      obtain ⟨b, o, pt⟩ := q
      have := h _ rfl
      unfold Addr.add
      split <;> exact this

theorem below_block {w w' : World} {g : Nat} (hl : g < w.heap.size) (h : Only (· = g) w w') {A : Option Addr} {l : List UInt8} (hb : BytesAt w A l) (hA : ∀ p, A = some p → p.block < g) : BytesAt w' A l :=
  h.bytes hb (fun p hp he => by have := hA p hp; omega)
theorem Rdr.put {w w' : World} {g : Nat} {A : Option Addr} {l : List UInt8} {m cap : Nat} {bad : Bool} (hlt : g < w.heap.size) (h : Only (· = g) w w') (hB : Blk w' g 289 [.slice A m cap, .bool bad]) (hm : l.length = m) (hc : m ≤ cap) (hm2 : m ≤ 140737488351232)
    (hb : BytesAt w A l) (hA : ∀ p, A = some p → p.block < g) : Rdr w' g l bad := by
  subst hm
  exact ⟨A, cap, hc, hm2, hB, below_block hlt h hb hA, hA⟩

set_option maxHeartbeats 1000000 in
theorem take_enough (g n : Nat) (l : List UInt8) (bad : Bool) (w : World) (h : Rdr w g l bad) (hn : n ≤ l.length) :
    Calls Tryz.prog 188 #[.pointer (some ⟨g, 0, none⟩), .int .i64 n] w fun e w' => ∃ A, e = .returned (.slice A n n) ∧ BytesAt w' A (l.take n) ∧ (∀ p, A = some p → p.block < g) ∧ Rdr w' g (l.drop n) bad ∧ w.grownBy w' (some g) := by
  obtain ⟨A, cap, hc, hm, hB, hb, hA⟩ := h
  obtain ⟨m, hlm⟩ : ∃ m, l.length = m := ⟨_, rfl⟩
  have hlt := hB.lt
  rw [hlm] at hB hc hm hn
  have hcut := Lib.hid (hb.cut n cap (by omega) (by omega))
  have hblk := Lib.hid (cut_block (n := n) (cap := cap) hA)
  have hB' := Lib.hid hB
  have c0 := hB.cell 0
  have f0 := hB.frozen 0
  simp only [List.getElem?_cons_zero] at c0
  have HL := Lib.hid (show (l.drop n).length = m - n by rw [List.length_drop, hlm])
  have hx1 : ¬ (m : Int) < n := by omega
  have hx2 : ¬ m < n := by omega
  have hx3 : (0 : Int) ≤ (n : Int) := by omega
  have hx4 : (n : Int) ≤ (m : Int) := by omega
  have hx5 : (n : Int) ≤ (cap : Int) := by omega
  have hfin : ∀ A', (∀ p, A' = some p → p.block < g) → BytesAt w A' (l.drop n) → Rdr (w.setCell ⟨g, 0, none⟩ (.slice A' (m - n) (cap - n))) g (l.drop n) bad ∧ w.grownBy (w.setCell ⟨g, 0, none⟩ (.slice A' (m - n) (cap - n))) (some g) ∧ BytesAt (w.setCell ⟨g, 0, none⟩ (.slice A' (m - n) (cap - n))) A (l.take n) := by
    intro A' h1 h2
    have ho := (Only.refl (· = g) w).setCell (p := ⟨g, 0, none⟩) (.inl rfl) (.slice A' (m - n) (cap - n))
    exact ⟨Rdr.put hlt ho (hB.set_ 0 _) HL.out (by omega) (by omega) h2 h1, ho.to_grown, below_block hlt ho (hb.head n) hA⟩
  have HF := Lib.hid hfin
  clear hB hlm hfin hb
  go_enter Tryz.func188, Tryz.ntmps188
  go_wp2_with fail
  all_goals
    go_ret
    have h1 := hcut.out
    have h2 := hblk.out
    first
      | (rw [if_neg (by assumption)] at h1 h2
         obtain ⟨k1, k2, k3⟩ := HF.out _ h2 h1
         exact ⟨A, rfl, k3, hA, k1, k2⟩)
      | (rw [if_pos (by omega)] at h1 h2
         obtain ⟨k1, k2, k3⟩ := HF.out _ h2 h1
         rw [show cap - n = 0 by omega] at k1 k2 k3
         exact ⟨A, rfl, k3, hA, k1, k2⟩)

set_option maxHeartbeats 1000000 in
theorem take_short (g n : Nat) (l : List UInt8) (bad : Bool) (w : World) (h : Rdr w g l bad) (hn : l.length < n) (hn2 : n ≤ 9223372036854775807) :
    Calls Tryz.prog 188 #[.pointer (some ⟨g, 0, none⟩), .int .i64 n] w fun e w' => ∃ A, e = .returned (.slice A l.length l.length) ∧ BytesAt w' A l ∧ (∀ p, A = some p → p.block < g) ∧ Rdr w' g [] true ∧ w.grownBy w' (some g) := by
  obtain ⟨A, cap, hc, hm, hB, hb, hA⟩ := h
  obtain ⟨m, hlm⟩ : ∃ m, l.length = m := ⟨_, rfl⟩
  have hlt := hB.lt
  rw [hlm] at hB hc hm hn ⊢
  have hblk := Lib.hid (cut_block (n := m) (cap := cap) hA)
  have c0 := hB.cell 0
  have f0 := hB.frozen 0
  have c1 := hB.cell 1
  have f1 := hB.frozen 1
  simp only [List.getElem?_cons_zero, List.getElem?_cons_succ] at c0 c1
  have hx1 : (m : Int) < n := by omega
  have hx2 : m < n := by omega
  have hx5 : (m : Int) ≤ (cap : Int) := by omega
  have hfin : ∀ A', (∀ p, A' = some p → p.block < g) → Rdr ((w.setCell ⟨g, 1, none⟩ (.bool true)).setCell ⟨g, 0, none⟩ (.slice A' 0 (cap - m))) g [] true ∧ w.grownBy ((w.setCell ⟨g, 1, none⟩ (.bool true)).setCell ⟨g, 0, none⟩ (.slice A' 0 (cap - m))) (some g) ∧
      BytesAt ((w.setCell ⟨g, 1, none⟩ (.bool true)).setCell ⟨g, 0, none⟩ (.slice A' 0 (cap - m))) A l := by
    intro A' h1
    have ho := ((Only.refl (· = g) w).setCell (p := ⟨g, 1, none⟩) (.inl rfl) (.bool true)).setCell (p := ⟨g, 0, none⟩) (.inl rfl) (.slice A' 0 (cap - m))
    exact ⟨Rdr.put hlt ho ((hB.set_ 1 _).set_ 0 _) rfl (by omega) (by omega) (.inl rfl) h1, ho.to_grown, below_block hlt ho hb hA⟩
  have HF := Lib.hid hfin
  clear hB hlm hfin hb
  go_enter Tryz.func188, Tryz.ntmps188
  go_wp2_with fail
  all_goals
    go_ret
    have h2 := hblk.out
    first
      | (rw [if_neg (by assumption)] at h2
         obtain ⟨k1, k2, k3⟩ := HF.out _ h2
         exact ⟨A, rfl, k3, hA, k1, k2⟩)
      | (rw [if_pos (by omega)] at h2
         obtain ⟨k1, k2, k3⟩ := HF.out _ h2
         rw [show cap - m = 0 by omega] at k1 k2 k3
         exact ⟨A, rfl, k3, hA, k1, k2⟩)

theorem take_any (g n : Nat) (l : List UInt8) (bad : Bool) (w : World) (h : Rdr w g l bad) (hn2 : n ≤ 9223372036854775807) :
    Calls Tryz.prog 188 #[.pointer (some ⟨g, 0, none⟩), .int .i64 n] w fun e w' => ∃ A, e = .returned (.slice A (l.take n).length (l.take n).length) ∧ BytesAt w' A (l.take n) ∧ (∀ p, A = some p → p.block < g) ∧ Rdr w' g (l.drop n) (bad || decide (l.length < n)) ∧ w.grownBy w' (some g) := by
  by_cases hn : n ≤ l.length
  · refine (take_enough g n l bad w h hn).mono ?_
    rintro e w' ⟨A, rfl, h1, h2, h3, h4⟩
    refine ⟨A, by rw [List.length_take, Nat.min_eq_left hn], h1, h2, ?_, h4⟩
    rw [decide_eq_false (by omega), Bool.or_false]
    exact h3
  · refine (take_short g n l bad w h (by omega) hn2).mono ?_
    rintro e w' ⟨A, rfl, h1, h2, h3, h4⟩
    have ht : l.take n = l := List.take_of_length_le (by omega)
    refine ⟨A, by rw [ht], by rw [ht]; exact h1, h2, ?_, h4⟩
    rw [decide_eq_true (by omega), Bool.or_true, List.drop_eq_nil_of_le (by omega)]
    exact h3

theorem or_byte (a c : Nat) (h : a < 72057594037927936) (hc : c < 256) : bits .or .u64 ((a : Int) * 256) (c : Int) = ((256 * a + c : Nat) : Int) := by
  rw [bits_join .u64 64 (by decide) (fun n h0 h1 => by rw [IntKind.wrap_u64]; omega) 8 _ _ (by omega) (by omega) (by omega) (by omega) (by omega) (by omega)]
  omega
set_option maxHeartbeats 1000000 in
theorem get_any (A : Option Addr) (cap : Nat) (l : List UInt8) (w : World) (hb : BytesAt w A l) (hl : l.length ≤ 8) :
    Calls Tryz.prog 167 #[.slice A l.length cap] w fun e w' => e = .returned (.int .u64 (Pl.num l : Nat)) ∧ w = w' := by
  go_enter Tryz.func167, Tryz.ntmps167
  go_wp2_with fail
  go_loop [3, 7] (fun v i => ∃ k : Nat, k ≤ l.length ∧ i = .int .i64 k ∧ v = .int .u64 (Pl.num (l.take k) : Nat)) (fun _ i => l.length - (intOf i).toNat)
  case atStart => exact ⟨0, Nat.zero_le _, rfl, rfl⟩
  case round =>
    obtain ⟨k, hk, rfl, rfl⟩ := hrel
    by_cases hlt : k < l.length
    · obtain ⟨b, off, rfl, hcell⟩ : ∃ b off, A = some ⟨b, off, none⟩ ∧ w.cell? ⟨b, off + k, none⟩ = some (.int .u8 (l[k].toNat : Int)) := by
        rcases hb with h | ⟨b, off, e, h⟩
        · subst h; simp at hlt
        · exact ⟨b, off, e, h k hlt⟩
      have hn1 := Pl.num_take_lt l k
      have hn2 : Pl.num (l.take k) < 72057594037927936 := Nat.lt_of_lt_of_le hn1 (Nat.pow_le_pow_right (n := 256) (j := 7) (by decide) (by omega))
      have hc := l[k].toNat_lt
      have hnext : Hid (Pl.num (l.take (k + 1)) = 256 * Pl.num (l.take k) + l[k].toNat) := by rw [Hid, take_snoc l k hlt, Pl.num_snoc]
      obtain ⟨c, hcc⟩ : ∃ c, l[k].toNat = c := ⟨_, rfl⟩
      obtain ⟨v, hv⟩ : ∃ v, Pl.num (l.take k) = v := ⟨_, rfl⟩
      have hnext' : Hid (Pl.num (l.take (k + 1)) = 256 * v + c) := by rw [← hv, ← hcc]; exact hnext
      rw [hcc] at hcell hc
      rw [hv] at hn2 ⊢
      clear hn1 hnext hcc hv
      go_wp2_with fail
      refine ⟨⟨k + 1, by omega, by simp, ?_⟩, by simp [intOf]; omega⟩
      rw [hnext'.out, or_byte v c hn2 (by omega)]
    · obtain rfl : k = l.length := by omega
      rw [List.take_length]
      go_wp2_with fail
      go_ret
      exact ⟨rfl, rfl⟩
end Go.Proofs.YtljmklohgpaopaaGreatDoor

namespace Go.Proofs.YtljmklohgpaopaaGreatDoor
open Go.RowKit

theorem Rdr.lt {w : World} {g : Nat} {l : List UInt8} {bad : Bool} (h : Rdr w g l bad) : g < w.heap.size := by
  obtain ⟨A, cap, _, _, hB, _⟩ := h
  exact hB.lt
theorem Rdr.only {F : Nat → Prop} {w w' : World} {g : Nat} {l : List UInt8} {bad : Bool} (h : Rdr w g l bad) (ho : Only F w w') (hF : ∀ x, x ≤ g → ¬ F x) : Rdr w' g l bad := by
  obtain ⟨A, cap, h1, h2, hB, hb, hA⟩ := h
  exact ⟨A, cap, h1, h2, ho.blk hB (hF g (Nat.le_refl _)), ho.bytes hb (fun p hp => hF _ (Nat.le_of_lt (hA p hp))), hA⟩
theorem Rdr.below {w w' : World} {g : Nat} {l : List UInt8} {bad : Bool} (h : Rdr w g l bad) (hb : Below w.heap.size w w') : Rdr w' g l bad := h.only (Only.of_below hb (fun _ => False)) (fun _ _ hx => hx)
theorem Rdr.length {w : World} {g : Nat} {l : List UInt8} {bad : Bool} (h : Rdr w g l bad) : l.length ≤ 140737488351232 := by
  obtain ⟨A, cap, _, h2, _⟩ := h
  exact h2

theorem only_set4 {F : Nat → Prop} {a w : World} (h : Only F a w) {g : Nat} (hg : F g ∨ a.heap.size ≤ g) (x0 x1 x2 x3 : Value) :
    Only F a ((((w.setCell ⟨g, 0, none⟩ x0).setCell ⟨g, 1, none⟩ x1).setCell ⟨g, 2, none⟩ x2).setCell ⟨g, 3, none⟩ x3) :=
  (((h.setCell hg x0).setCell hg x1).setCell hg x2).setCell hg x3

theorem num_any (g n : Nat) (l : List UInt8) (bad : Bool) (w : World) (h : Rdr w g l bad) (hn : n ≤ 7) :
    Calls Tryz.prog 169 #[.pointer (some ⟨g, 0, none⟩), .int .i64 n] w fun e w' => e = .returned (.int .i64 (Pl.num (l.take n) : Nat)) ∧ Rdr w' g (l.drop n) (bad || decide (l.length < n)) ∧ w.grownBy w' (some g) := by
  have hlt := Pl.num_take_lt l n
  have hlt2 : Pl.num (l.take n) < 72057594037927936 := Nat.lt_of_lt_of_le hlt (Nat.pow_le_pow_right (n := 256) (j := 7) (by decide) hn)
  have hl8 : (l.take n).length ≤ 8 := by rw [List.length_take]; omega
  obtain ⟨t, ht⟩ : ∃ t, l.take n = t := ⟨_, rfl⟩
  obtain ⟨v, hv⟩ : ∃ v, Pl.num t = v := ⟨_, rfl⟩
  have HT := Lib.hid ht
  have HV := Lib.hid hv
  rw [ht] at hl8 hlt2 ⊢
  rw [hv] at hlt2 ⊢
  clear hlt ht hv
  go_enter Tryz.func169, Tryz.ntmps169
  go_wp2_with fail
  refine (take_any g n l bad w h (by omega)).mono ?_
  rintro e w1 ⟨A, rfl, hb, hA, hR, hg⟩
  rw [HT.out] at hb ⊢
  go_wp2_with fail
  refine (get_any A _ t w1 hb hl8).mono ?_
  rintro e w' ⟨rfl, rfl⟩
  rw [HV.out]
  go_wp2_with fail
  go_ret
  exact ⟨rfl, hR, hg⟩

theorem run_slice_from (w : World) (A : Option Addr) (n cap k : Nat) (ki : Int) (hki : ki = k) (hk : k ≤ n) :
    (Instr.slice 25 (.slice A n cap) (some (.int .i64 ki)) none none).run Tryz.prog w = .ok (.slice (if cap = k then A else A.map (·.add k)) (n - k) (cap - k)) w := by
  obtain ⟨i0, hi, hz0, hz1, hz2⟩ := info_parts Tryz.infoByte
  subst hki
  have he : Tryz.prog.elem 25 = 5 := by kernel_rfl
  rw [run_slice_l (P := Tryz.prog) w 25 A n cap (by rw [he]; exact Tryz.underlying25) .i64 k (by omega) (by omega), he]
  simp [sizeOf, typeInfo, hi, hz1, sliced]
end Go.Proofs.YtljmklohgpaopaaGreatDoor

namespace Go.Proofs.YtljmklohgpaopaaGreatDoor
open Go.RowKit

/-- A row of the call's own; or a slice whose length is its capacity, and whose cells these are. -/
def Ready (w : World) (base : Nat) (e : TypeId) (size : Nat) (v : Value) (n : Nat) (xs : List Value) : Prop :=
  w.ownsRow base e size v n xs ∨ (xs.length = n * size ∧ ∃ b off, v = .slice (some ⟨b, off, none⟩) n n ∧ Src w (some ⟨b, off, none⟩) xs)
theorem Ready.own {w : World} {base : Nat} {e : TypeId} {size n : Nat} {v : Value} {xs : List Value} (h : w.ownsRow base e size v n xs) : Ready w base e size v n xs := .inl h
theorem Ready.alloc {w : World} {base : Nat} {e : TypeId} {size n : Nat} {v : Value} {xs : List Value} (h : Ready w base e size v n xs) (o : Obj) : Ready (w.alloc o) base e size v n xs := by
  rcases h with h | ⟨hl, b, off, hv, hs⟩
  · exact .inl (h.alloc o)
  · exact .inr ⟨hl, b, off, hv, hs.below ((Below.refl _ _).alloc (Nat.le_refl _) o)⟩

section
variable {P : Program} (w : World)
theorem run_append_ready (base : Nat) (t ty e : TypeId) (i : TypeInfo) (z : Value) (size bytes : Nat) (ht : P.underlying t = some (.slice e)) (hi : P.info? e = some i) (hz : i.zero = some z)
    (hsize : i.size = size) (hby : i.bytes = bytes) (hzs : z.cells.size = size) (hsz : 0 < size)
    (v : Value) (n : Nat) (xs : List Value) (hown : Ready w base e size v n xs)
    (A : Option Addr) (m c : Nat) (news : List Value) (hl : news.length = m * size) (hr : Src w A news) (h1 : ∀ u ∈ news, u.oneCell' = true) (hm0 : 0 < m)
    (h63 : n + m ≤ maxLen) (hbytes : ∀ old, old < n + m → Builtin.nextslicecap (n + m) old * bytes ≤ 281474976710656) (hbase : base ≤ w.heap.size) :
    ∃ v' w', (Builtin.append_ #[t, t] ty #[v, .slice A m c]).run P w = .ok v' w' ∧ w'.ownsRow base e size v' (n + m) (xs ++ news) ∧ Below base w w' ∧
      (∀ k, k < w.heap.size → v.ownBlock ≠ some k → w'.heap[k]? = w.heap[k]?) ∧ (v'.ownBlock = v.ownBlock ∨ v'.ownBlock = some w.heap.size) := by
  rcases hown with hown | ⟨hxl, b, off, rfl, hsrc⟩
  · obtain ⟨v', w', h2, h3, h4, h5⟩ := run_append_src (P := P) w base t ty e i z size bytes ht hi hz hsize hby hzs hsz v n xs hown A m c news hl hr h1 h63 hbytes hbase
    exact ⟨v', w', h2, h3, (Below.refl base w).grown h4 hbase (fun k hk => (hown.lt k hk).1), fun k hk hne => h4.block k hk (fun e => hne e.symm), h5⟩
  · subst hsize
    subst hby
    have hpos : 0 < news.length := by rw [hl]; exact Nat.mul_pos hm0 hsz
    obtain ⟨b2, off2, rfl, hcells⟩ : ∃ b2 off2, A = some ⟨b2, off2, none⟩ ∧ ∀ j u, news[j]? = some u → w.cell? ⟨b2, off2 + j, none⟩ = some u := by
      rcases hr with h | h
      · rw [h] at hpos; simp at hpos
      · exact h
    have hsmall : n + m ≤ 9223372036854775807 := by simp only [maxLen] at h63; omega
    have hrun := run_append_grow (P := P) w t ty e i z ht hi hz ⟨b, off, none⟩ n n xs hxl (fun j u hu => by
        obtain ⟨b', off', e1, hc⟩ := hsrc.at_ j u hu
        cases e1
        rw [addr_add]; exact hc) ⟨b2, off2, none⟩ m c news hl (fun j u hu => by rw [addr_add]; exact hcells j u hu) (by omega) (by omega) (hbytes n (by omega))
    have hge := grownCap_ge w (n + m) n e
    have hcm : grownCap w (n + m) n e ≤ maxLen := grownCap_le_maxLen w (n + m) n e h63
    have hlen : (xs ++ news).length = (n + m) * i.size := by rw [List.length_append, hxl, hl, Nat.add_mul]
    refine ⟨_, _, hrun, ⟨hlen, .inr ⟨w.heap.size, _, _, rfl, hbase, heap_alloc_new w.drew _, hge, hcm, ?_, ?_⟩⟩, ((Below.refl base w).drew).alloc hbase _, fun k hk _ => Below.heap_alloc w.drew _ k hk, .inr rfl⟩
    · simp only [Array.size_append, List.size_toArray, size_zeroCells, hzs, hxl, hl, ← Nat.add_mul]
      congr 1
      omega
    · simp only [Array.toList_append, List.append_assoc]
      rw [← List.append_assoc, ← hlen]
      exact List.take_left

theorem wp_append_ready {o : Oper} {a : Act} {K : Act → World → Prop} {Q : Exit → Act → World → Prop} (s x : Operand) (t : TypeId)
    (ho : o.op = .call { callee := .builtin .append, args := #[s, x], argTypes := #[t, t] })
    (base : Nat) (e : TypeId) (i : TypeInfo) (z : Value) (size bytes : Nat) (ht : P.underlying t = some (.slice e)) (hi : P.info? e = some i) (hz : i.zero = some z)
    (hsize : i.size = size) (hby : i.bytes = bytes) (hzs : z.cells.size = size) (hsz : 0 < size)
    (v : Value) (n : Nat) (xs : List Value) (hs : a.eval s = v) (hown : Ready w base e size v n xs)
    (A : Option Addr) (m c : Nat) (news : List Value) (hx : a.eval x = .slice A m c) (hl : news.length = m * size) (hr : Src w A news) (h1 : ∀ u ∈ news, u.oneCell' = true) (hm0 : 0 < m)
    (h63 : n + m ≤ maxLen) (hbytes : ∀ old, old < n + m → Builtin.nextslicecap (n + m) old * bytes ≤ 281474976710656) (hbase : base ≤ w.heap.size)
    (h : ∀ v' w', w'.ownsRow base e size v' (n + m) (xs ++ news) → Below base w w' → (∀ k, k < w.heap.size → v.ownBlock ≠ some k → w'.heap[k]? = w.heap[k]?) → (v'.ownBlock = v.ownBlock ∨ v'.ownBlock = some w.heap.size) → K (a.put o.dst v') w') : o.wp P a w K Q := by
  obtain ⟨v', w', hrun, h2, h3, h4, h5⟩ := run_append_ready (P := P) w base t o.type e i z size bytes ht hi hz hsize hby hzs hsz v n xs hown A m c news hl hr h1 hm0 h63 hbytes hbase
  unfold Oper.wp execOp
  simp only [ho, resolve, invoke, builtin, Sem.run_bind, Sem.run_pure, Result.andThen_ok, List.map_toArray, List.map_cons, List.map_nil, hs, hx, hrun]
  exact h v' w' h2 h3 h4 h5

theorem wpList_append_ready {ops : Array Oper} {rest : List Oper} {o : Oper} {a : Act} {Q : Exit → Act → World → Prop} (hgd : o.guard = none) (s x : Operand) (t : TypeId)
    (ho : o.op = .call { callee := .builtin .append, args := #[s, x], argTypes := #[t, t] })
    (base : Nat) (e : TypeId) (i : TypeInfo) (z : Value) (size bytes : Nat) (ht : P.underlying t = some (.slice e)) (hi : P.info? e = some i) (hz : i.zero = some z)
    (hsize : i.size = size) (hby : i.bytes = bytes) (hzs : z.cells.size = size) (hsz : 0 < size)
    (v : Value) (n : Nat) (xs : List Value) (hs : a.eval s = v) (hown : Ready w base e size v n xs)
    (A : Option Addr) (m c : Nat) (news : List Value) (hx : a.eval x = .slice A m c) (hl : news.length = m * size) (hr : Src w A news) (h1 : ∀ u ∈ news, u.oneCell' = true) (hm0 : 0 < m)
    (h63 : n + m ≤ maxLen) (hbytes : ∀ old, old < n + m → Builtin.nextslicecap (n + m) old * bytes ≤ 281474976710656) (hbase : base ≤ w.heap.size)
    (h : ∀ v' w', w'.ownsRow base e size v' (n + m) (xs ++ news) → Below base w w' → (∀ k, k < w.heap.size → v.ownBlock ≠ some k → w'.heap[k]? = w.heap[k]?) → (v'.ownBlock = v.ownBlock ∨ v'.ownBlock = some w.heap.size) → wpList P ops Q rest (a.put o.dst v') w') : wpList P ops Q (o :: rest) a w :=
  wpList_plain hgd fun _ hK => wp_append_ready w s x t ho base e i z size bytes ht hi hz hsize hby hzs hsz v n xs hs hown A m c news hx hl hr h1 hm0 h63 hbytes hbase fun v' w' h2 h3 h4 h5 => hK _ _ (h v' w' h2 h3 h4 h5)
end

/-- []byte("..") of a literal: the row that was just made is marked. -/
theorem run_mark {P : Program} (w : World) (t e : TypeId) (cs : Array Value) (n : Nat) (ht : P.underlying t = some (.slice e)) (he : P.underlying e = some (.int .u8)) (hn : n = cs.size) :
    (convert t t (.slice (some ⟨w.heap.size, 0, none⟩) n n)).run P (w.alloc (.cells cs e)) = .ok (.slice (some ⟨w.heap.size, 0, none⟩) n n) (w.alloc (.cells cs e (n, n + 1))) := by
  subst hn
  have hsh : (w.alloc (.cells cs e)).shape? w.heap.size = some (e, cs.size) := by
    unfold World.shape?
    rw [heap_alloc_new]
  have hfr : (w.alloc (.cells cs e)).freeze ⟨w.heap.size, cs.size, none⟩ 1 = w.alloc (.cells cs e (cs.size, cs.size + 1)) := by
    have hm : ∀ (a : Array Obj) (x : Obj) (f : Obj → Obj), (a.push x).modify a.size f = a.push (f x) := by
      intro a x f
      apply Array.ext
      · simp
      · intro i h1 h2
        simp only [Array.getElem_modify, Array.getElem_push]
        by_cases h : a.size = i
        · subst h
          simp
        · have hi : i < a.size := by simp at h1; omega
          simp [h, hi]
    unfold World.freeze
    rw [if_neg (by decide)]
    show ({ w.alloc (.cells cs e) with heap := (w.heap.push (.cells cs e)).modify w.heap.size _ } : World) = _
    rw [hm]
    rfl
  simp [convert, run_underlying ht, run_underlying he, markStringish, hsh, hfr]
end Go.Proofs.YtljmklohgpaopaaGreatDoor

namespace Go.Proofs.YtljmklohgpaopaaGreatDoor
open Go.RowKit

theorem bv_snoc (l : List UInt8) (c : UInt8) : bv (l ++ [c]) = bv l ++ [.int .u8 (c.toNat : Int)] := by simp [bv]

set_option maxHeartbeats 1000000 in
set_option maxRecDepth 100000 in
theorem put_any (v : Value) (n : Nat) (l : List UInt8) (x s base : Nat) (w : World) (hown : Ready w base 5 1 v n (bv l)) (hbase : base ≤ w.heap.size) (hx : x < 18446744073709551616) (hs : s ≤ 8) (hs0 : 0 < s) (hn : n ≤ 70368744177664) :
    Calls Tryz.prog 130 #[v, .int .u64 x, .int .i64 s] w fun e w' => ∃ v', e = .returned v' ∧ w'.ownsRow base 5 1 v' (n + s) (bv (l ++ Pl.be s x)) ∧ Below base w w' ∧
      (∀ k, k < w.heap.size → v.ownBlock ≠ some k → w'.heap[k]? = w.heap[k]? ∧ v'.ownBlock ≠ some k) := by
  obtain ⟨i0, hi, hz0, hz1, hz2⟩ := info_parts Tryz.infoByte
  go_enter Tryz.func130, Tryz.ntmps130
  go_wp2_with fail
  go_loopw [0, 7] (fun u i wr => ∃ j : Nat, j ≤ s ∧ i = .int .i64 ((s : Int) - 1 - j) ∧ Hid (Ready wr base 5 1 u (n + j) (bv (l ++ (Pl.be s x).take j))) ∧ Hid (0 < j → wr.ownsRow base 5 1 u (n + j) (bv (l ++ (Pl.be s x).take j))) ∧ Below base w wr ∧
      Hid (∀ k, k < w.heap.size → v.ownBlock ≠ some k → wr.heap[k]? = w.heap[k]? ∧ u.ownBlock ≠ some k)) (fun _ i _ => (intOf i + 1).toNat)
  case atStart => exact ⟨0, by omega, by simp, (by simpa using hown : Ready w base 5 1 v (n + 0) (bv (l ++ (Pl.be s x).take 0))), fun h => absurd h (by omega), Below.refl _ _, fun k hk hne => ⟨rfl, hne⟩⟩
  case round =>
    obtain ⟨j, hj, rfl, HO, HO1, hbel, HF⟩ := hrel
    by_cases hjs : j < s
    · obtain ⟨q, hq⟩ : ∃ q : Nat, (s : Int) - 1 - j = (q : Int) := ⟨s - 1 - j, by omega⟩
      have hq8 : q ≤ 7 := by omega
      obtain ⟨y, hy⟩ : ∃ y : Int, (x : Int) / 2 ^ (8 * q) % 256 = y := ⟨_, rfl⟩
      have hyv : y = ((UInt8.ofNat (x / 256 ^ q)).toNat : Int) := by
        rw [← hy, show (256 : Nat) = 2 ^ 8 from rfl, ← Nat.pow_mul]
        simp
      have htk : Hid (bv (l ++ (Pl.be s x).take (j + 1)) = bv (l ++ (Pl.be s x).take j) ++ [.int .u8 y]) := by
        rw [Hid, Pl.be_take_succ s x j hjs, ← List.append_assoc, bv_snoc, hyv, show s - 1 - j = q by omega]
      rw [hq]
      have HQ := Lib.hid hq
      have hown2 := Lib.hid (HO.out.alloc (.cells #[.int .u8 y] 5))
      have hsrc2 := Lib.hid (Src.of_blk (Blk.new wr 5 [.int .u8 y]))
      have hbel2 := hbel.alloc (Nat.le_trans hbase hbel.size) (.cells #[.int .u8 y] 5)
      have hbase2 : base ≤ (wr.alloc (.cells #[.int .u8 y] 5)).heap.size := Nat.le_trans (Nat.le_trans hbase hbel.size) (by simp)
      have hroom := Lib.hid (byte_room (n := n + j) (m := 1) (by omega))
      have h63 := Lib.hid (show n + j + 1 ≤ maxLen by simp only [maxLen]; omega)
      have hone : Hid (∀ u ∈ [Value.int .u8 y], u.oneCell' = true) := by
        intro u hu
        simp at hu
        subst hu
        rfl
      have hszr := hbel.size
      clear hyv hq hbel
      go_wp2_with (at_builtin
                   refine wpList_append_ready _ rfl (.tmp 14) (.tmp 20) 25 rfl base 5 i0 (.int .u8 0) 1 1 Tryz.underlying25 hi hz0 hz1 hz2 rfl (by decide) u0 (n + j) (bv (l ++ (Pl.be s x).take j)) rfl hown2.out (some ⟨wr.heap.size, 0, none⟩) 1 1 [.int .u8 y] rfl rfl hsrc2.out hone.out (by decide) h63.out hroom.out hbase2 ?_
                   intro v3 w3 hown3 hbel3 hkeep3 hat3)
      have hF := HF.out
      have hown4 : w3.ownsRow base 5 1 v3 (n + (j + 1)) (bv (l ++ (Pl.be s x).take (j + 1))) := by rw [htk.out]; exact hown3
      refine ⟨⟨j + 1, by omega, ?_, .inl hown4, fun _ => hown4, hbel2.trans hbel3, ?_⟩, ?_⟩
      · have := HQ.out
        congr 1
        omega
      · intro k hk hne
        obtain ⟨h1, h2⟩ := hF k hk hne
        refine ⟨((hkeep3 k (by simp; omega) h2).trans (Below.heap_alloc wr _ k (by omega))).trans h1, ?_⟩
        rcases hat3 with e | e
        · rw [e]; exact h2
        · rw [e]; simp; omega
      · simp [intOf]
    · obtain rfl : j = s := by omega
      have hneg : ¬ (0 : Int) ≤ (j : Int) - 1 - j := by omega
      have HF2 := HF.out
      have ho := HO1.out hs0
      rw [List.take_of_length_le (by rw [Pl.be_length]; exact Nat.le_refl _)] at ho
      have HO2 := Lib.hid ho
      clear ho HO HO1
      go_wp2_with fail
      go_ret
      exact ⟨_, rfl, HO2.out, hbel, HF2⟩

theorem hc_be (n : Nat) (hn : n < 4294967296) : hc n = bv (Pl.be 4 n) := (hc_bytes n hn).symm
set_option maxHeartbeats 1000000 in
set_option maxRecDepth 100000 in
theorem header_more (b h r : Nat) (w : World) (hb : b < 4294967296) (hh : h < 4294967296) (hr : r < 4294967296) :
    Calls Tryz.prog 173 #[.int .i64 b, hashVal h, hashVal r] w fun e w' => ∃ A' cap', e = .returned (.slice A' 13 cap') ∧ BytesAt w' A' (Pl.header b h r) ∧ Below w.heap.size w w' ∧ 13 ≤ cap' ∧ ∀ p, A' = some p → w.heap.size ≤ p.block ∧ p.block < w'.heap.size := by
  obtain ⟨i0, hi, hz0, hz1, hz2⟩ := info_parts Tryz.infoByte
  obtain ⟨w0, hw0⟩ : ∃ w0, (w.alloc (.cells (hc h).toArray 200)).alloc (.cells (hc r).toArray 200) = w0 := ⟨_, rfl⟩
  have hsz0 : w0.heap.size = w.heap.size + 1 + 1 := by rw [← hw0]; simp
  have B1 : Blk w0 w.heap.size 200 (hc h) := by rw [← hw0]; exact (Blk.new _ _ _).alloc _
  have B2 : Blk w0 (w.heap.size + 1) 200 (hc r) := by rw [← hw0]; exact Blk.newAt _ _ _ _ (by simp)
  have hm := run_mark (P := Tryz.prog) w0 25 5 #[.int .u8 66] 1 Tryz.underlying25 Tryz.underlying5 rfl
  have hbel0 : Below w.heap.size w w0 := by rw [← hw0]; exact ((Below.refl _ _).alloc (Nat.le_refl _) _).alloc (by simp) _
  have hbel1 := hbel0.alloc hbel0.size (.cells #[.int .u8 66] 5 (1, 2))
  have hrd : Ready (w0.alloc (.cells #[.int .u8 66] 5 (1, 2))) w.heap.size 5 1 (.slice (some ⟨w.heap.size + 1 + 1, 0, none⟩) 1 1) 1 (bv [66]) := by
    refine .inr ⟨rfl, _, _, rfl, .inr ⟨_, _, rfl, fun j u hu => ?_⟩⟩
    rw [← hsz0, Nat.zero_add, cell_of_row _ _ _ _ _ _ (heap_alloc_new w0 _)]
    simpa [bv] using hu
  have HB1 := Lib.hid ((Below.heap_alloc w0 (.cells #[.int .u8 66] 5 (1, 2)) _ B1.lt).trans B1)
  have HB2 := Lib.hid ((Below.heap_alloc w0 (.cells #[.int .u8 66] 5 (1, 2)) _ B2.lt).trans B2)
  have HRD := Lib.hid hrd
  have HH := Lib.hid (hc_be h hh)
  have HR := Lib.hid (hc_be r hr)
  rw [hsz0] at hm
  unfold hc at hw0
  unfold hashVal
  clear B1 B2 hrd hbel0
  go_enter Tryz.func173, Tryz.ntmps173
  go_wp2_with fail
  refine (put_any (.slice (some ⟨w.heap.size + 1 + 1, 0, none⟩) 1 1) 1 [66] b 4 w.heap.size _ HRD.out hbel1.size (by omega) (by omega) (by omega) (by omega)).mono ?_
  rintro e w1 ⟨v1, rfl, hown1, hb1, hkeep⟩
  obtain ⟨k1, n1⟩ := hkeep w.heap.size (by simp; omega) (fun e => by have := Option.some.inj (show some (w.heap.size + 1 + 1) = some w.heap.size from e); omega)
  obtain ⟨k2, n2⟩ := hkeep (w.heap.size + 1) (by simp; omega) (fun e => by have := Option.some.inj (show some (w.heap.size + 1 + 1) = some (w.heap.size + 1) from e); omega)
  have hB1 : Blk w1 w.heap.size 200 (hc h) := k1.trans HB1.out
  have hB2 : Blk w1 (w.heap.size + 1) 200 (hc r) := k2.trans HB2.out
  have S1 := Lib.hid (Src.of_blk hB1)
  have hbel2 := hbel1.trans (hb1.mono (Nat.le_refl _))
  have HOWN := Lib.hid hown1
  have hsz1 := hbel2.size
  have hlt2 := hB2.lt
  have HB22 := Lib.hid hB2
  clear hkeep k1 k2 hB1 hB2 hown1 hb1 hm hw0 hsz0
  go_wp2_with fail
  go_region_held3 (fun _ => True) (trivial) (first
    | (refine step_append_src _ rfl (.tmp 13) (.tmp 14) 25 rfl w.heap.size 5 i0 (.int .u8 0) 1 1 Tryz.underlying25 hi hz0 hz1 hz2 rfl (by decide) v1 5 _ rfl HOWN.out (some ⟨w.heap.size, 0, none⟩) 4 4 (hc h) rfl rfl S1.out (hc_one h) ?_ (byte_room ?_) hsz1 ?_
       · simp only [maxLen]; omega
       · omega
       intro v2 w2 hown2 hg2 hat2
       have hbel3 := hbel2.drew.grown hg2 hsz1 (fun g hg => (HOWN.out.lt g hg).1)
       have hsz2 := hbel3.size
       have S2 := Lib.hid (Src.of_blk (HB22.out.drew.grown hg2 (fun e => n2 e.symm))))
    | (refine step_append_src _ rfl (.tmp 15) (.tmp 16) 25 rfl w.heap.size 5 i0 (.int .u8 0) 1 1 Tryz.underlying25 hi hz0 hz1 hz2 rfl (by decide) v2 9 _ rfl hown2 (some ⟨w.heap.size + 1, 0, none⟩) 4 4 (hc r) rfl rfl S2.out (hc_one r) ?_ (byte_room ?_) hsz2 ?_
       · simp only [maxLen]; omega
       · omega
       intro v3 w3 hown3 hg3 hat3
       have hbel4 := hbel3.grown hg3 hsz2 (fun g hg => (hown2.lt g hg).1))
    | fail)
  go_wp2_with fail
  obtain ⟨A1, cap1, rfl, hcap, hsrc, hat3⟩ := own_src hown3
  have hlt3 := Lib.hid (fun p hp => hown3.lt _ (hat3 p hp))
  have hcap3 := Lib.hid hcap
  go_ret
  refine ⟨A1, cap1, rfl, Src.bytes ?_, hbel4, hcap3.out, hlt3.out⟩
  have : bv (Pl.header b h r) = bv ([66] ++ Pl.be 4 b) ++ hc h ++ hc r := by
    rw [HH.out, HR.out, ← bv_append, ← bv_append]
    simp [Pl.header]
  rw [this]
  exact hsrc
end Go.Proofs.YtljmklohgpaopaaGreatDoor

namespace Go.Proofs.YtljmklohgpaopaaGreatDoor
open Go.RowKit

end Go.Proofs.YtljmklohgpaopaaGreatDoor

namespace Go.Proofs.YtljmklohgpaopaaGreatDoor
open Go.RowKit

def tstr (l : List UInt8) : ByteArray := ⟨l.toArray⟩
theorem tstr_size (l : List UInt8) : (tstr l).size = l.length := by show l.toArray.size = _; simp
theorem tstr_list (l : List UInt8) : (tstr l).data.toList = l := rfl
theorem tstr_append (a b : List UInt8) : tstr a ++ tstr b = tstr (a ++ b) := by
  have : (tstr a ++ tstr b).data = (tstr (a ++ b)).data := by
    apply Array.toList_inj.1
    simp [tstr_list]
  cases h1 : tstr a ++ tstr b; cases h2 : tstr (a ++ b); rw [h1, h2] at this; simpa using this
theorem run_cat (w : World) (a b : List UInt8) (h : a.length + b.length ≤ 9223372036854775807) : (Op.stringOp .add (tstr a) (tstr b)).run Tryz.prog w = .ok (.string (tstr (a ++ b))) w := by
  rw [run_string_add_sum w _ _ (by rw [tstr_size, tstr_size]; exact h), tstr_append]
theorem tstr_take (l : List UInt8) (k : Nat) : (tstr l).extract 0 k = tstr (l.take k) := by
  have : ((tstr l).extract 0 k).data = (tstr (l.take k)).data := by
    apply Array.toList_inj.1
    simp [tstr_list, tstr]
  cases h1 : (tstr l).extract 0 k; cases h2 : tstr (l.take k); rw [h1, h2] at this; simpa using this
theorem tstr_drop (l : List UInt8) (k : Nat) : (tstr l).extract k l.length = tstr (l.drop k) := by
  have : ((tstr l).extract k l.length).data = (tstr (l.drop k)).data := by
    apply Array.toList_inj.1
    simp [tstr_list, tstr]
    rw [List.take_of_length_le (by simp)]
  cases h1 : (tstr l).extract k l.length; cases h2 : tstr (l.drop k); rw [h1, h2] at this; simpa using this
theorem run_str_take (w : World) (l : List UInt8) (k : Int) (n : Nat) (hk : k = n) (hn : n ≤ l.length) :
    (Instr.slice 9 (.string (tstr l)) none (some (.int .i64 k)) none).run Tryz.prog w = .ok (.string (tstr (l.take n))) w := by
  subst hk
  rw [run_slice_string_to_if w 9 (tstr l) .i64 n Tryz.underlying9, if_pos ⟨by omega, by rw [tstr_size]; omega⟩, Int.toNat_natCast, tstr_take]
theorem run_str_drop (w : World) (l : List UInt8) (k : Int) (n : Nat) (hk : k = n) (hn : n ≤ l.length) :
    (Instr.slice 9 (.string (tstr l)) (some (.int .i64 k)) none none).run Tryz.prog w = .ok (.string (tstr (l.drop n))) w := by
  subst hk
  rw [run_slice_string_from_if w 9 (tstr l) .i64 n Tryz.underlying9, if_pos ⟨by omega, by rw [tstr_size]; omega⟩, Int.toNat_natCast, tstr_size, tstr_drop]

end Go.Proofs.YtljmklohgpaopaaGreatDoor

namespace Go.Proofs.YtljmklohgpaopaaGreatDoor
open Go.RowKit

theorem run_tostr (w : World) (A : Option Addr) (l : List UInt8) (cap : Nat) (h : BytesAt w A l) :
    (convert 25 9 (.slice A l.length cap)).run Tryz.prog w = .ok (.string (tstr l)) w := by
  cases A with
  | none =>
    have : l = [] := by
      rcases h with h | ⟨_, _, e, _⟩
      · exact h
      · cases e
    subst this
    exact run_convert_bytes_nil w 25 5 Tryz.underlying25 Tryz.underlying5 0 cap 9 Tryz.underlying9
  | some a =>
    refine run_convert_bytes_back (P := Tryz.prog) w 25 9 5 a cap l Tryz.underlying25 Tryz.underlying5 Tryz.underlying9 (fun j hj => ?_)
    obtain ⟨b, off, e, hc⟩ := h.at_ j hj
    cases e
    rw [addr_add]
    exact hc

theorem tstr_beq (a b : List UInt8) : ((tstr a).toList == (tstr b).toList) = (a == b) := by
  rw [ByteArray.toList_eq, ByteArray.toList_eq, tstr_list, tstr_list]

theorem bytesEqual_any (A B : Option Addr) (l m : List UInt8) (c d : Nat) (w : World) (ha : BytesAt w A l) (hb : BytesAt w B m) :
    Calls Tryz.prog 108 #[.slice A l.length c, .slice B m.length d] w fun e w' => e = .returned (.bool (l == m)) ∧ w = w' := by
  have h1 := run_tostr w A l c ha
  have h2 := run_tostr w B m d hb
  have h3 := tstr_beq l m
  go_enter Tryz.func108, Tryz.ntmps108
  go_wp2_with fail
  go_ret
  exact ⟨rfl, rfl⟩

theorem chainHash_any (A : Option Addr) (cap : Nat) (l : List UInt8) (w : World) (hb : BytesAt w A l) (hm : l.length ≤ 9223372036854775807) :
    Calls Tryz.prog 107 #[.slice A l.length cap] w fun e w' => e = .returned (hashVal (Pl.sumN l)) ∧ Below w.heap.size w w' := by
  have hb1 := hb.keep (w' := w.alloc (.cells #[.int .u8 0, .int .u8 0, .int .u8 0, .int .u8 0] 200)) ((Below.refl _ _).alloc (Nat.le_refl _) _)
  obtain ⟨x, hx⟩ : ∃ x, Pl.sumN l = x := ⟨_, rfl⟩
  have hS := sum_any A cap l _ hb1 hm
  rw [hx] at hS ⊢
  have HS := Lib.hid hS
  clear hS hx hb hb1
  go_enter Tryz.func107, Tryz.ntmps107
  go_wp2_with fail
  refine HS.out.mono ?_
  rintro e w1 ⟨rfl, hb1⟩
  unfold hashVal
  have hB := (Blk.hash0 w).below hb1 (by simp)
  obtain ⟨c0, c1, c2, c3, f0, f1, f2, f3⟩ := facts4 hB
  have hB' := Lib.hid hB
  have H' := Lib.hid (((Below.refl w.heap.size w).alloc (Nat.le_refl _) _).trans (hb1.mono (by simp)))
  clear hB hb1
  go_wp2_with fail
  refine bodyPost_ret (v := hashVal x) (results_hash rfl rfl (hB'.out.set4 _ _ _ _)) rfl ⟨rfl, ?_⟩
  exact below_set4 H'.out (Nat.le_refl _) _ _ _ _

theorem eqIn_hash (d : Nat) (x0 x1 x2 x3 y0 y1 y2 y3 : Int) (w : World) (h : ∀ a b w, (Op.equalIn d 5 (.int .u8 a) (.int .u8 b)).run Tryz.prog w = .ok (a == b) w) : (Op.equalIn (d + 1) 200 (.agg #[.int .u8 x0, .int .u8 x1, .int .u8 x2, .int .u8 x3]) (.agg #[.int .u8 y0, .int .u8 y1, .int .u8 y2, .int .u8 y3])).run Tryz.prog w = .ok (x0 == y0 && (x1 == y1 && (x2 == y2 && x3 == y3))) w := by
  obtain ⟨i0, hi, hz0, hz1, hz2⟩ := info_parts Tryz.infoByte
  have hs : ∀ w, (sizeOf 5).run Tryz.prog w = .ok 1 w := fun w => by simp [sizeOf, typeInfo, hi, hz1]
  have hp : ∀ (w : World) (i : Nat) (z : Array Value) (v : Value), z[i]? = some v → (part 5 z i).run Tryz.prog w = .ok v w := by
    intro w i z v hz
    have ha : ∀ w, (isAgg 5).run Tryz.prog w = .ok false w := fun w => by simp [isAgg, run_underlying Tryz.underlying5]
    simp [part, ha, hz]
  simp only [Op.equalIn, Sem.run_bind, run_underlying Tryz.underlying200, Result.andThen_ok]
  simp only [hs, Result.andThen_ok, Std.Legacy.Range.forIn_eq_forIn_range']
  simp only [show List.range' ([0:4] : Std.Legacy.Range).start ([0:4] : Std.Legacy.Range).size ([0:4] : Std.Legacy.Range).step = [0, 1, 2, 3] from rfl]
  simp only [List.forIn_cons, List.forIn_nil, Sem.run_bind]
  have p0 := fun (a b c d : Value) (w : World) => hp w (0 * 1) #[a, b, c, d] a rfl
  have p1 := fun (a b c d : Value) (w : World) => hp w (1 * 1) #[a, b, c, d] b rfl
  have p2 := fun (a b c d : Value) (w : World) => hp w (2 * 1) #[a, b, c, d] c rfl
  have p3 := fun (a b c d : Value) (w : World) => hp w (3 * 1) #[a, b, c, d] d rfl
  simp only [p0, Result.andThen_ok, h]
  cases h0 : x0 == y0 <;> cases h1 : x1 == y1 <;> cases h2 : x2 == y2 <;> cases h3 : x3 == y3 <;> simp [h1, h2, h3, p1, p2, p3, h]
theorem hash_bytes_eq (a b : Nat) (ha : a < 4294967296) (hb : b < 4294967296) : (((a : Int) / 16777216 == (b : Int) / 16777216) && (((a : Int) / 65536 % 256 == (b : Int) / 65536 % 256) && (((a : Int) / 256 % 256 == (b : Int) / 256 % 256) && ((a : Int) % 256 == (b : Int) % 256)))) = decide (a = b) := by
  rw [Bool.eq_iff_iff]
  simp only [Bool.and_eq_true, beq_iff_eq, decide_eq_true_eq]
  omega
theorem run_neq_hash (a b : Nat) (ha : a < 4294967296) (hb : b < 4294967296) (w : World) : (binOp .neq 200 (hashVal a) (hashVal b)).run Tryz.prog w = .ok (.bool (!decide (a = b))) w := by
  unfold hashVal
  rw [run_neq_struct, eqIn_hash 9999 _ _ _ _ _ _ _ _ w (fun a b w => run_equalIn_int w 9998 5 .u8 .u8 a b Tryz.underlying5), hash_bytes_eq a b ha hb]
  rfl
end Go.Proofs.YtljmklohgpaopaaGreatDoor

namespace Go.Proofs.YtljmklohgpaopaaGreatDoor
namespace Pl

structure Sec where
  now : List UInt8
  safe : List UInt8
  broken : Bool
  was : Bool
  fresh : Bool
structure Dk where
  secs : List Sec
  life : Int
def zeros (n : Nat) : List UInt8 := List.replicate n 0
def Sec.empty : Sec := ⟨zeros 256, zeros 256, false, false, false⟩
/-- So many sectors does a disk have that is asked for with this number. -/
def most (n : Int) : Nat := if n < 0 then 0 else if 4096 < n then 4096 else n.toNat
def Dk.new (n : Int) : Dk := ⟨List.replicate (most n) Sec.empty, -1⟩
/-- May a change be done? -/
def Dk.alive (d : Dk) : Bool := decide (d.life < 0 ∨ 1 < d.life)
/-- A changing call is counted. -/
def Dk.tick (d : Dk) : Dk := { d with life := if 0 < d.life then d.life - 1 else d.life }
def Sec.put (s : Sec) (t : List UInt8) : Sec := ⟨t ++ zeros (256 - t.length), s.safe, false, s.was, true⟩
def Sec.flush (s : Sec) : Sec := if s.fresh then ⟨s.now, s.now, s.broken, false, false⟩ else s
inductive Ch where
  | wr (i : Nat) (t : List UInt8)
  | sy
/-- What a change makes of the sectors. -/
def Ch.on (c : Ch) (l : List Sec) : List Sec :=
  match c with
  | .wr i t => l.modify i (·.put t)
  | .sy => l.map Sec.flush
/-- One changing call. -/
def Dk.change (d : Dk) (c : Ch) : Dk := if d.alive then { d.tick with secs := c.on d.secs } else d.tick
/-- Changing calls one behind the other, till one fails: does none? -/
def Dk.run (d : Dk) : List Ch → Dk × Bool
  | [] => (d, true)
  | c :: r => if d.alive then (d.change c).run r else (d.change c, false)
/-- A look at a sector: nothing, if it is broken. -/
def Dk.look (d : Dk) (i : Nat) : Option (List UInt8) :=
  match d.secs[i]? with
  | some s => if s.broken then none else some s.now
  | none => none
/-- Which of three things. -/
def three (c : Int) : Nat := ((if c < 0 then -(c + 1) else c) % 3).toNat
def pieceText (e i : Nat) (more : Bool) (c : List UInt8) : List UInt8 := 76 :: (be 8 e ++ be 4 i ++ [if more then 1 else 0] ++ be 2 c.length ++ c)
/-- The pieces of a payload, from a place on: each with whether more follows. -/
def pieces (p : List UInt8) : List (Bool × List UInt8) :=
  if h : p.length ≤ 240 then [(false, p)] else (true, p.take 240) :: pieces (p.drop 240)
termination_by p.length
decreasing_by rw [List.length_drop]; omega
def chunks (n : Nat) : Nat := (n + 239) / 240

structure Lg where
  first : Nat
  data : Nat
  epoch : Nat
  next : Nat
  all : List (List UInt8)
  bad : Bool
def Lg.at_ (l : Lg) (i : Nat) : Nat := l.first + 2 + i
def Lg.laid (l : Lg) : Nat → List (Bool × List UInt8) → List Ch
  | _, [] => []
  | i, (m, c) :: r => .wr (l.at_ i) (pieceText l.epoch i m c) :: l.laid (i + 1) r
/-- What a log's calls answer: the error's kind. -/
def Lg.append (l : Lg) (d : Dk) (p : List UInt8) : Lg × Dk × Nat :=
  if p.length < 1 ∨ 2000 < p.length then (l, d, 4)
  else if l.data < l.next + chunks p.length then (l, d, 5)
  else if l.bad then (l, d, 3)
  else match d.run (l.laid l.next (pieces p)) with
    | (d', true) => ({ l with next := l.next + chunks p.length, all := l.all ++ [p] }, d', 0)
    | (d', false) => ({ l with bad := true }, d', 3)
def sizeOf (s : List UInt8) : Nat := num ((s.drop 14).take 2)
theorem num_be (k v : Nat) (h : v < 256 ^ k) : num (be k v) = v := by
  induction k generalizing v with
  | zero => simp at h; subst h; rfl
  | succ k ih =>
    rw [be_snoc, num_snoc, ih (v / 256) (by rw [Nat.pow_succ] at h; exact Nat.div_lt_of_lt_mul (by rw [Nat.mul_comm]; exact h))]
    simp
    omega
end Pl
end Go.Proofs.YtljmklohgpaopaaGreatDoor
