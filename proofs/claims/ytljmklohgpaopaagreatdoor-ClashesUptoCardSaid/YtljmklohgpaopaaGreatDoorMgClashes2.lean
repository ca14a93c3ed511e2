/- Plain facts on trees of sums: no program in sight. The walks of sums.Leaf, Half, Node and of the reference's half. The walks of sums.Node and Root. The walk of sums.Root. The walks of the reference's Root, Path, Deep, Climb. What the rows over slices share: arguments that read as they did; the reach, of strings inside a slice; strings opened. Only these blocks have changed: laws over any program. Plain facts on headers and what leads from one to another: no program in sight. -/
import Derived.Test.YtljmklohgpaopaaGreatDoorMgClashes1
import Derived.Deep.RegionWith
import Derived.Deep.RegionHeld3
import Derived.Carry
import Derived.SliceStrings
import Derived.SizedLaws
import Derived.Deep.Slices
set_option linter.unusedVariables false
set_option linter.unusedSimpArgs false

namespace Go.Proofs.YtljmklohgpaopaaGreatDoor
namespace Pl

/-- The greatest power of two below a number of leaves (of one: one). -/
def half (n : Nat) : Nat := 2 ^ Nat.log2 (n - 1)
theorem half_pos (n : Nat) : 0 < half n := Nat.two_pow_pos _
theorem half_lt {n : Nat} (h : 2 ≤ n) : half n < n := by
  have := Nat.log2_self_le (n := n - 1) (by omega)
  unfold half; omega
theorem half_of {n j : Nat} (h1 : j = 0 ∨ 2 ^ j < n) (h2 : n ≤ 2 * 2 ^ j) (hn : 1 ≤ n) : 2 ^ j = half n := by
  unfold half
  congr 1
  rcases Nat.lt_or_ge 1 n with h | h
  · have hne : n - 1 ≠ 0 := by omega
    have hj : 2 ^ j ≤ n - 1 := by rcases h1 with rfl | h1 <;> simp_all <;> omega
    have hlt : n - 1 < 2 ^ (j + 1) := by rw [Nat.pow_succ]; omega
    exact ((Nat.log2_eq_iff hne).2 ⟨hj, hlt⟩).symm
  · obtain rfl : n = 1 := by omega
    rcases h1 with rfl | h1
    · simp
    · have := Nat.two_pow_pos j; omega

/-- The root of a tree, as a number. -/
def root (ls : List (List UInt8)) : Nat :=
  match ls with
  | [] => sumN []
  | [l] => sumN (0 :: l)
  | a :: b :: r => sumN (1 :: (be 4 (root ((a :: b :: r).take (half (r.length + 2)))) ++ be 4 (root ((a :: b :: r).drop (half (r.length + 2))))))
termination_by ls.length
decreasing_by
  all_goals
    have h1 := half_pos (r.length + 2)
    have h2 := half_lt (n := r.length + 2) (by omega)
    simp
    omega
theorem root_nil : root [] = sumN [] := by rw [root]
theorem root_one (l : List UInt8) : root [l] = sumN (0 :: l) := by rw [root]
theorem root_many (ls : List (List UInt8)) (h : 2 ≤ ls.length) : root ls = sumN (1 :: (be 4 (root (ls.take (half ls.length))) ++ be 4 (root (ls.drop (half ls.length))))) := by
  match ls, h with
  | a :: b :: r, _ => rw [root]; rfl
theorem root_lt (ls : List (List UInt8)) : root ls < 4294967291 := by
  match ls with
  | [] => rw [root_nil]; exact sumN_lt _
  | [l] => rw [root_one]; exact sumN_lt _
  | a :: b :: r => rw [root_many _ (by simp)]; exact sumN_lt _

/-- How many roots a way has. -/
def depth (at_ many : Nat) : Nat :=
  if h : many ≤ 1 then 0 else if at_ < half many then depth at_ (half many) + 1 else depth (at_ - half many) (many - half many) + 1
termination_by many
decreasing_by
  · exact half_lt (by omega)
  · have := half_pos many; omega
/-- What bytes tell, the highest first. -/
def num (l : List UInt8) : Nat := l.foldl (fun v c => 256 * v + c.toNat) 0
/-- The hash that is made of a text: its first bytes, noughts behind. -/
def hashOf (l : List UInt8) : Nat := num ((l ++ [0, 0, 0, 0]).take 4)
/-- The numbers of a text's groups of four bytes. -/
def groups (l : List UInt8) : List Nat :=
  match l with
  | a :: b :: c :: d :: r => num [a, b, c, d] :: groups r
  | _ => []
theorem groups_short (l : List UInt8) (h : l.length < 4) : groups l = [] := by
  match l, h with
  | [], _ => simp [groups]
  | [_], _ => simp [groups]
  | [_, _], _ => simp [groups]
  | [_, _, _], _ => simp [groups]
theorem groups_long (l : List UInt8) (h : 4 ≤ l.length) : groups l = hashOf l :: groups (l.drop 4) := by
  match l, h with
  | a :: b :: c :: d :: r, _ => rfl
end Pl
end Go.Proofs.YtljmklohgpaopaaGreatDoor

namespace Go.Proofs.YtljmklohgpaopaaGreatDoor
open Go.RowKit

theorem BytesAt.src {w : World} {A : Option Addr} {l : List UInt8} (h : BytesAt w A l) : Src w A (bv l) := by
  rcases h with rfl | ⟨b, off, rfl, h⟩
  · exact .inl rfl
  · refine .inr ⟨b, off, rfl, fun j u hu => ?_⟩
    have hj : j < l.length := by
      rcases Nat.lt_or_ge j l.length with h' | h'
      · exact h'
      · rw [List.getElem?_eq_none (by simpa using h')] at hu; cases hu
    rw [getb l j hj] at hu
    rw [← hu]
    exact h j hj
theorem Src.bytes {w : World} {A : Option Addr} {l : List UInt8} (h : Src w A (bv l)) : BytesAt w A l := by
  rcases h with h | ⟨b, off, rfl, h⟩
  · left
    have := congrArg List.length h
    simp at this
    exact this
  · exact .inr ⟨b, off, rfl, fun i hi => h i _ (getb l i hi)⟩
theorem BytesAt.keep {w w' : World} {A : Option Addr} {l : List UInt8} (h : BytesAt w A l) (hb : Below w.heap.size w w') : BytesAt w' A l := (h.src.below hb).bytes

theorem own_new {w : World} (e : TypeId) (x : Value) : (w.alloc (.cells #[x] e)).ownsRow w.heap.size e 1 (.slice (some ⟨w.heap.size, 0, none⟩) 1 1) 1 [x] :=
  ⟨rfl, .inr ⟨w.heap.size, 1, #[x], rfl, Nat.le_refl _, heap_alloc_new w _, Nat.le_refl _, by simp [maxLen], rfl, rfl⟩⟩

/-- An append to a slice of bytes that the call owns: Go's own bound. -/
theorem byte_room {n m : Nat} (h : n + m ≤ 140737488355328) : ∀ old, old < n + m → Builtin.nextslicecap (n + m) old * 1 ≤ 281474976710656 := by
  intro old ho
  exact growslice_fits ho (by omega)

set_option maxHeartbeats 400000 in
theorem leaf_more (A : Option Addr) (cap : Nat) (l : List UInt8) (w : World) (hb : BytesAt w A l) (hm : l.length ≤ 140737488351232) :
    Calls Tryz.prog 174 #[.slice A l.length cap] w fun e w' => ∃ A' cap', e = .returned (.slice A' (l.length + 1) cap') ∧ BytesAt w' A' (0 :: l) ∧ Below w.heap.size w w' ∧ l.length + 1 ≤ cap' ∧ ∀ p, A' = some p → w.heap.size ≤ p.block ∧ p.block < w'.heap.size := by
  obtain ⟨i0, hi, hz0, hz1, hz2⟩ := info_parts Tryz.infoByte
  have hs := (hb.keep (w' := w.alloc (.cells #[.int .u8 0] 5)) ((Below.refl _ _).alloc (Nat.le_refl _) _)).src
  go_enter Tryz.func174, Tryz.ntmps174
  go_wp2_with (at_builtin; refine wpList_append_src _ rfl _ _ 25 rfl w.heap.size 5 i0 (.int .u8 0) 1 1 Tryz.underlying25 hi hz0 hz1 hz2 rfl (by decide) _ 1 [.int .u8 0] rfl (own_new _ _) A l.length cap (bv l) rfl (by simp) hs (bv_one _) (by simp only [maxLen]; omega) (byte_room (by omega)) (by simp) ?_; intro v' w1 hown hgrow hat)
  obtain ⟨A1, cap1, rfl, hcap, hsrc, hat⟩ := own_src hown
  have hlt := Lib.hid (fun p hp => hown.lt _ (hat p hp))
  have hcap' : Hid (l.length + 1 ≤ cap1) := by rw [Hid]; omega
  clear hcap
  go_wp2
  go_ret
  refine ⟨A1, cap1, by simp [Nat.add_comm], Src.bytes (by simpa [bv] using hsrc), ((Below.refl _ _).alloc (Nat.le_refl _) _).grown hgrow (by simp) (fun k hk => ?_), hcap'.out, hlt.out⟩
  cases hk
  exact Nat.le_refl _
theorem leaf_any (A : Option Addr) (cap : Nat) (l : List UInt8) (w : World) (hb : BytesAt w A l) (hm : l.length ≤ 140737488351232) :
    Calls Tryz.prog 174 #[.slice A l.length cap] w fun e w' => ∃ A' cap', e = .returned (.slice A' (l.length + 1) cap') ∧ BytesAt w' A' (0 :: l) ∧ Below w.heap.size w w' :=
  (leaf_more A cap l w hb hm).mono fun _ _ ⟨A, c, h1, h2, h3, _⟩ => ⟨A, c, h1, h2, h3⟩

set_option maxHeartbeats 400000 in
theorem half_any (n : Nat) (w : World) (h1 : 1 ≤ n) (h2 : n ≤ 4611686018427387903) :
    Calls Tryz.prog 175 #[.int .i64 (n : Int)] w fun e w' => e = .returned (.int .i64 (Pl.half n : Nat)) ∧ w = w' := by
  go_enter Tryz.func175, Tryz.ntmps175
  go_wp2
  go_loop [3] (fun i => ∃ j k : Nat, Hid (2 ^ j = k) ∧ i = .int .i64 (k : Int) ∧ 1 ≤ k ∧ k ≤ n ∧ (j = 0 ∨ k < n)) (fun i => n - (intOf i).toNat)
  case atStart => exact ⟨0, 1, rfl, rfl, by omega, h1, .inl rfl⟩
  case round =>
    obtain ⟨j, k, HK, rfl, hk1, hkn, hj⟩ := hrel
    by_cases hlt : 2 * k < n
    · go_wp2
      go_round
      case rel => exact ⟨j + 1, 2 * k, by rw [Hid, Nat.pow_succ, HK.out, Nat.mul_comm], by go_num, by omega, by omega, .inr hlt⟩
      case measure => simp [intOf]; omega
    · have hh : Hid (k = Pl.half n) := by
        have hx := HK.out
        rw [← hx] at hlt hkn hj ⊢
        exact Pl.half_of (by rcases hj with h | h; exact .inl h; exact .inr h) (by omega) h1
      go_wp2


      go_ret
      exact ⟨by rw [← hh.out]; rfl, rfl⟩

set_option maxHeartbeats 400000 in
theorem refHalf_any (n : Nat) (w : World) (h1 : 1 ≤ n) (h2 : n ≤ 4611686018427387903) :
    Calls Tryz.prog 73 #[.int .i64 (n : Int)] w fun e w' => e = .returned (.int .i64 (Pl.half n : Nat)) ∧ w = w' := by
  go_enter Tryz.func73, Tryz.ntmps73
  go_wp2
  go_loop [3] (fun i => ∃ j k : Nat, Hid (2 ^ j = k) ∧ i = .int .i64 (k : Int) ∧ 1 ≤ k ∧ k ≤ n ∧ (j = 0 ∨ k < n)) (fun i => n - (intOf i).toNat)
  case atStart => exact ⟨0, 1, rfl, rfl, by omega, h1, .inl rfl⟩
  case round =>
    obtain ⟨j, k, HK, rfl, hk1, hkn, hj⟩ := hrel
    by_cases hlt : 2 * k < n
    · go_wp2
      go_round
      case rel => exact ⟨j + 1, 2 * k, by rw [Hid, Nat.pow_succ, HK.out, Nat.mul_comm], by go_num, by omega, by omega, .inr hlt⟩
      case measure => simp [intOf]; omega
    · have hh : Hid (k = Pl.half n) := by
        have hx := HK.out
        rw [← hx] at hlt hkn hj ⊢
        exact Pl.half_of (by rcases hj with h | h; exact .inl h; exact .inr h) (by omega) h1
      go_wp2
      go_ret
      exact ⟨by rw [← hh.out]; rfl, rfl⟩
end Go.Proofs.YtljmklohgpaopaaGreatDoor

namespace Go.Proofs.YtljmklohgpaopaaGreatDoor
open Go.RowKit

/-- The four cells of a hash. -/
def hc (n : Nat) : List Value := [.int .u8 ((n : Int) / 16777216), .int .u8 ((n : Int) / 65536 % 256), .int .u8 ((n : Int) / 256 % 256), .int .u8 ((n : Int) % 256)]
theorem hc_bytes (n : Nat) (hn : n < 4294967296) : bv (Pl.be 4 n) = hc n := by
  have := Pl.hashText_eq n
  unfold Pl.hashText at this
  rw [this]
  simp [bv, hc]
  omega
theorem hc_one (n : Nat) : ∀ v ∈ hc n, v.oneCell' = true := by
  intro v hv
  simp [hc] at hv
  rcases hv with rfl | rfl | rfl | rfl <;> rfl
theorem own_newAt {w : World} (base n : Nat) (e : TypeId) (x : Value) (hn : n = w.heap.size) (hb : base ≤ n) : (w.alloc (.cells #[x] e)).ownsRow base e 1 (.slice (some ⟨n, 0, none⟩) 1 1) 1 [x] := by
  subst hn
  exact ⟨rfl, .inr ⟨w.heap.size, 1, #[x], rfl, hb, heap_alloc_new w _, Nat.le_refl _, by simp [maxLen], rfl, rfl⟩⟩

set_option maxHeartbeats 1000000 in
theorem node_more (a b : Nat) (w : World) (ha : a < 4294967296) (hb : b < 4294967296) :
    Calls Tryz.prog 176 #[hashVal a, hashVal b] w fun e w' => ∃ A' cap', e = .returned (.slice A' 9 cap') ∧ BytesAt w' A' (1 :: (Pl.be 4 a ++ Pl.be 4 b)) ∧ Below w.heap.size w w' ∧ 9 ≤ cap' ∧ ∀ p, A' = some p → w.heap.size ≤ p.block ∧ p.block < w'.heap.size := by
  obtain ⟨i0, hi, hz0, hz1, hz2⟩ := info_parts Tryz.infoByte
  have hba := hc_bytes a ha
  have hbb := hc_bytes b hb
  have HA := Lib.hid hba
  have HB := Lib.hid hbb
  clear hba hbb
  have B1 : Blk ((w.alloc (.cells (hc a).toArray 200)).alloc (.cells (hc b).toArray 200)) w.heap.size 200 (hc a) := (Blk.new _ _ _).alloc _
  have B2 : Blk ((w.alloc (.cells (hc a).toArray 200)).alloc (.cells (hc b).toArray 200)) (w.heap.size + 1) 200 (hc b) := Blk.newAt _ _ _ _ (by simp)
  have S1 := Src.of_blk (B1.alloc (.cells #[.int .u8 1] 5))
  have B3 := B2.alloc (.cells #[.int .u8 1] 5)
  have own1 := own_newAt (w := (w.alloc (.cells (hc a).toArray 200)).alloc (.cells (hc b).toArray 200)) w.heap.size (w.heap.size + 1 + 1) 5 (.int .u8 1) (by simp) (by omega)
  have S1' := Lib.hid S1
  have B3' := Lib.hid B3
  have own1' := Lib.hid own1
  clear B1 B2 S1 B3 own1
  go_enter Tryz.func176, Tryz.ntmps176
  go_wp2_with (first
    | (at_builtin
       refine wpList_append_src _ rfl (.tmp 6) (.tmp 7) 25 rfl w.heap.size 5 i0 (.int .u8 0) 1 1 Tryz.underlying25 hi hz0 hz1 hz2 rfl (by decide) (.slice (some ⟨w.heap.size + 1 + 1, 0, none⟩) 1 1) 1 [.int .u8 1] rfl own1'.out (some ⟨w.heap.size, 0, none⟩) 4 4 (hc a) rfl rfl S1'.out (hc_one a) (by simp only [maxLen]; omega) (byte_room (by omega)) (by simp; omega) ?_
       intro v1 w1 hown1 hg1 hat1
       have S2 := Lib.hid (Src.of_blk (B3'.out.grown hg1 (by simp [Value.ownBlock])))
       have hlt1 := hg1.size)
    | (at_builtin
       refine wpList_append_src _ rfl (.tmp 9) (.tmp 10) 25 rfl w.heap.size 5 i0 (.int .u8 0) 1 1 Tryz.underlying25 hi hz0 hz1 hz2 rfl (by decide) v1 5 _ rfl hown1 (some ⟨w.heap.size + 1, 0, none⟩) 4 4 (hc b) rfl rfl S2.out (hc_one b) (by simp only [maxLen]; omega) (byte_room (by omega)) (by simp at hlt1; omega) ?_
       intro v2 w2 hown2 hg2 hat2))
  obtain ⟨A1, cap1, rfl, hcap, hsrc, hat⟩ := own_src hown2
  have hlt := Lib.hid (fun p hp => hown2.lt _ (hat p hp))
  have hcap' := Lib.hid hcap
  go_wp2
  go_ret
  refine ⟨A1, cap1, by simp, Src.bytes ?_, ?_, hcap'.out, hlt.out⟩
  · have : bv (1 :: (Pl.be 4 a ++ Pl.be 4 b)) = [.int .u8 1] ++ hc a ++ hc b := by
      rw [← HA.out, ← HB.out]
      simp [bv]
    rw [this]
    exact hsrc
  · have h1 : Below w.heap.size w w1 := ((((Below.refl _ _).alloc (Nat.le_refl _) _).alloc (by simp) _).alloc (by simp; omega) _).grown hg1 (by simp; omega) (fun k hk => by cases hk; simp; omega)
    refine h1.grown hg2 h1.size (fun k hk => ?_)
    rcases hat1 with e | e
    · rw [e] at hk; cases hk; simp; omega
    · rw [e] at hk; cases hk; simp; omega
theorem node_any (a b : Nat) (w : World) (ha : a < 4294967296) (hb : b < 4294967296) :
    Calls Tryz.prog 176 #[hashVal a, hashVal b] w fun e w' => ∃ A' cap', e = .returned (.slice A' 9 cap') ∧ BytesAt w' A' (1 :: (Pl.be 4 a ++ Pl.be 4 b)) ∧ Below w.heap.size w w' :=
  (node_more a b w ha hb).mono fun _ _ ⟨A, c, h1, h2, h3, _⟩ => ⟨A, c, h1, h2, h3⟩
end Go.Proofs.YtljmklohgpaopaaGreatDoor

namespace Go.Proofs.YtljmklohgpaopaaGreatDoor
open Go.RowKit

/-- The address leads to a row of slices that read as these texts. -/
def BB (w : World) (A : Option Addr) (ls : List (List UInt8)) : Prop :=
  ls = [] ∨ ∃ b off, A = some ⟨b, off, none⟩ ∧ ∀ (i : Nat) l, ls[i]? = some l → l.length ≤ 140737488351232 ∧ ∃ A' cap, l.length ≤ cap ∧ w.cell? ⟨b, off + i, none⟩ = some (.slice A' l.length cap) ∧ BytesAt w A' l
theorem BB.keep {w w' : World} {A : Option Addr} {ls : List (List UInt8)} (h : BB w A ls) (hb : Below w.heap.size w w') : BB w' A ls := by
  rcases h with h | ⟨b, off, rfl, h⟩
  · exact .inl h
  · refine .inr ⟨b, off, rfl, fun i l hl => ?_⟩
    obtain ⟨h1, A', cap, h2, h3, h4⟩ := h i l hl
    exact ⟨h1, A', cap, h2, below_keeps hb _ _ h3, h4.keep hb⟩
theorem BB.take {w : World} {A : Option Addr} {ls : List (List UInt8)} (h : BB w A ls) (k : Nat) : BB w A (ls.take k) := by
  rcases h with rfl | ⟨b, off, rfl, h⟩
  · exact .inl (by simp)
  · refine .inr ⟨b, off, rfl, fun i l hl => ?_⟩
    rw [List.getElem?_take] at hl
    split at hl
    · exact h i l hl
    · cases hl
theorem BB.drop {w : World} {b off : Nat} {ls : List (List UInt8)} (h : BB w (some ⟨b, off, none⟩) ls) (k : Nat) : BB w (some ⟨b, off + k, none⟩) (ls.drop k) := by
  rcases h with rfl | ⟨b', off', e, h⟩
  · exact .inl (by simp)
  · cases e
    refine .inr ⟨_, _, rfl, fun i l hl => ?_⟩
    rw [List.getElem?_drop] at hl
    rw [Nat.add_assoc]
    exact h _ l hl
theorem BB.addr {w : World} {A : Option Addr} {ls : List (List UInt8)} (h : BB w A ls) (hn : 0 < ls.length) : ∃ b off, A = some ⟨b, off, none⟩ := by
  rcases h with rfl | ⟨b, off, rfl, _⟩
  · simp at hn
  · exact ⟨b, off, rfl⟩
theorem BB.at_ {w : World} {b off : Nat} {ls : List (List UInt8)} (h : BB w (some ⟨b, off, none⟩) ls) (i : Nat) (l : List UInt8) (hl : ls[i]? = some l) :
    l.length ≤ 140737488351232 ∧ ∃ A' cap, l.length ≤ cap ∧ w.cell? ⟨b, off + i, none⟩ = some (.slice A' l.length cap) ∧ BytesAt w A' l := by
  rcases h with rfl | ⟨b', off', e, h⟩
  · simp at hl
  · cases e
    exact h i l hl

theorem undrew {B : Nat} {a w : World} (h : Below B a.drew w) : Below B a w := ⟨h.os, h.tape, h.output, h.size, h.block⟩
theorem nil_bytes (w : World) : BytesAt w none [] := .inl rfl

theorem Blk.set4 {w : World} {g : Nat} {t : TypeId} {a0 a1 a2 a3 : Value} (h : Blk w g t [a0, a1, a2, a3]) (x0 x1 x2 x3 : Value) :
    Blk ((((w.setCell ⟨g, 0, none⟩ x0).setCell ⟨g, 1, none⟩ x1).setCell ⟨g, 2, none⟩ x2).setCell ⟨g, 3, none⟩ x3) g t [x0, x1, x2, x3] :=
  (((h.set_ 0 x0).set_ 1 x1).set_ 2 x2).set_ 3 x3
theorem below_set4 {B : Nat} {a w : World} (h : Below B a w) {g : Nat} (hg : B ≤ g) (x0 x1 x2 x3 : Value) :
    Below B a ((((w.setCell ⟨g, 0, none⟩ x0).setCell ⟨g, 1, none⟩ x1).setCell ⟨g, 2, none⟩ x2).setCell ⟨g, 3, none⟩ x3) :=
  (((h.setCell hg x0).setCell hg x1).setCell hg x2).setCell hg x3
theorem loadVar_hash (w : World) (g n : Nat) (h : Blk w g 200 (hc n)) : (loadVar 200 ⟨g, 0, none⟩).run Tryz.prog w = .ok (hashVal n) w := by
  have c0 := h.cell 0
  have c1 := h.cell 1
  have c2 := h.cell 2
  have c3 := h.cell 3
  simp only [hc, List.getElem?_cons_succ, List.getElem?_cons_zero] at c0 c1 c2 c3
  simp [go_sem, c0, c1, c2, c3, hashVal]

theorem results_hash {fn : Func} {t : Tmp} {tmps : Array Value} {w : World} {g n : Nat} (h : fn.results = #[.cell t 200]) (ht : tmps.getD t undef = .pointer (some ⟨g, 0, none⟩)) (hB : Blk w g 200 (hc n)) :
    (results fn tmps).run Tryz.prog w = .ok (hashVal n) w := by
  have hl := loadVar_hash w g n hB
  simp only [Array.getD_eq_getD_getElem?] at ht
  simp [results, h, ht, hl, asAddr]

set_option maxHeartbeats 2000000 in
theorem root_zero (A : Option Addr) (cap : Nat) (w : World) :
    Calls Tryz.prog 172 #[.slice A 0 cap] w fun e w' => e = .returned (hashVal (Pl.root [])) ∧ Below w.heap.size w w' := by
  rw [Pl.root_nil]
  go_enter Tryz.func172, Tryz.ntmps172
  go_wp2_with fail
  refine (sum_any none 0 [] _ (nil_bytes _) (by simp)).mono ?_
  rintro e w1 ⟨rfl, hb1⟩
  unfold hashVal
  have B := (Blk.new w 200 [.int .u8 0, .int .u8 0, .int .u8 0, .int .u8 0]).below hb1 (by simp)
  have c0 := B.cell 0
  have c1 := B.cell 1
  have c2 := B.cell 2
  have c3 := B.cell 3
  have f0 := B.frozen 0
  have f1 := B.frozen 1
  have f2 := B.frozen 2
  have f3 := B.frozen 3
  simp only [List.getElem?_cons_succ, List.getElem?_cons_zero] at c0 c1 c2 c3
  have B' := Lib.hid B
  have H1 := Lib.hid hb1
  clear B hb1
  go_wp2_with fail
  refine bodyPost_ret (v := hashVal (Pl.sumN [])) (results_hash rfl rfl (B'.out.set4 _ _ _ _)) rfl ⟨rfl, ?_⟩
  exact below_set4 (((Below.refl _ _).alloc (Nat.le_refl _) _).trans (H1.out.mono (by simp))) (Nat.le_refl _) _ _ _ _

theorem facts4 {w : World} {g : Nat} {t : TypeId} {a0 a1 a2 a3 : Value} (h : Blk w g t [a0, a1, a2, a3]) :
    w.cell? ⟨g, 0, none⟩ = some a0 ∧ w.cell? ⟨g, 1, none⟩ = some a1 ∧ w.cell? ⟨g, 2, none⟩ = some a2 ∧ w.cell? ⟨g, 3, none⟩ = some a3 ∧
    w.frozen? ⟨g, 0, none⟩ = false ∧ w.frozen? ⟨g, 1, none⟩ = false ∧ w.frozen? ⟨g, 2, none⟩ = false ∧ w.frozen? ⟨g, 3, none⟩ = false :=
  ⟨h.cell 0, h.cell 1, h.cell 2, h.cell 3, h.frozen 0, h.frozen 1, h.frozen 2, h.frozen 3⟩
theorem Blk.hash0 (w : World) : Blk (w.alloc (.cells #[.int .u8 0, .int .u8 0, .int .u8 0, .int .u8 0] 200)) w.heap.size 200 [.int .u8 0, .int .u8 0, .int .u8 0, .int .u8 0] := Blk.new w _ _

set_option maxHeartbeats 2000000 in
theorem root_single (l : List UInt8) (b off cap : Nat) (w : World) (hb : BB w (some ⟨b, off, none⟩) [l]) :
    Calls Tryz.prog 172 #[.slice (some ⟨b, off, none⟩) 1 cap] w fun e w' => e = .returned (hashVal (Pl.root [l])) ∧ Below w.heap.size w w' := by
  rw [Pl.root_one]
  obtain ⟨hl, A', cap', hcap, hc, hbs⟩ := hb.at_ 0 l rfl
  have hlt := World.block_lt_of_cell? _ _ hc
  simp only [Nat.add_zero] at hc
  have hbs1 := hbs.keep (w' := w.alloc (.cells #[.int .u8 0, .int .u8 0, .int .u8 0, .int .u8 0] 200)) ((Below.refl _ _).alloc (Nat.le_refl _) _)
  go_enter Tryz.func172, Tryz.ntmps172
  go_wp2_with fail
  refine (leaf_any A' cap' l _ hbs1 hl).mono ?_
  rintro e w1 ⟨A2, cap2, rfl, hb2, hbel1⟩
  go_wp2_with fail
  refine (sum_any A2 cap2 (0 :: l) _ hb2 (by simp; omega)).mono ?_
  rintro e w2 ⟨rfl, hbel2⟩
  unfold hashVal
  have hB := (((Blk.hash0 w).below hbel1 (by simp)).below hbel2 (by have := hbel1.size; simp at this; omega))
  have H : Below w.heap.size w w2 := (((Below.refl _ _).alloc (Nat.le_refl _) _).trans (hbel1.mono (by simp))).trans (hbel2.mono (by have := hbel1.size; simp at this; omega))
  have H' := Lib.hid H
  obtain ⟨c0, c1, c2, c3, f0, f1, f2, f3⟩ := facts4 hB
  have hB' := Lib.hid hB
  clear hB hbel1 hbel2 H hbs1 hbs hb hb2
  go_wp2_with fail
  refine bodyPost_ret (v := hashVal (Pl.sumN (0 :: l))) (results_hash rfl rfl (hB'.out.set4 _ _ _ _)) rfl ⟨rfl, ?_⟩
  exact below_set4 H'.out (Nat.le_refl _) _ _ _ _

theorem root_join (w w1 w2 w3 w4 : World) (o : Obj) (h1 : Below (w.alloc o).heap.size (w.alloc o) w1) (h2 : Below w1.heap.size w1 w2) (h3 : Below w2.heap.size w2 w3) (h4 : Below w3.heap.size w3 w4) :
    Below (w.alloc o).heap.size (w.alloc o) w4 ∧ Below w.heap.size w w4 := by
  have h12 := h1.trans (h2.mono h1.size)
  have h13 := h12.trans (h3.mono h12.size)
  have h14 := h13.trans (h4.mono h13.size)
  exact ⟨h14, ((Below.refl _ _).alloc (Nat.le_refl _) _).trans (h14.mono (by simp))⟩

set_option maxHeartbeats 4000000 in
theorem root_step (ls : List (List UInt8)) (b off cap : Nat) (w : World) (hn : 2 ≤ ls.length) (hb : BB w (some ⟨b, off, none⟩) ls) (hc : ls.length ≤ cap) (hm : ls.length ≤ 4611686018427387903)
    (ih : ∀ (ls' : List (List UInt8)) (A : Option Addr) (cap : Nat) (w : World), ls'.length < ls.length → BB w A ls' → ls'.length ≤ cap →
      Calls Tryz.prog 172 #[.slice A ls'.length cap] w fun e w' => e = .returned (hashVal (Pl.root ls')) ∧ Below w.heap.size w w') :
    Calls Tryz.prog 172 #[.slice (some ⟨b, off, none⟩) ls.length cap] w fun e w' => e = .returned (hashVal (Pl.root ls)) ∧ Below w.heap.size w w' := by
  rw [Pl.root_many ls hn]
  obtain ⟨k, hk⟩ : ∃ k, Pl.half ls.length = k := ⟨_, rfl⟩
  have hk1 := Pl.half_pos ls.length
  have hk2 := Pl.half_lt hn
  rw [hk] at hk1 hk2 ⊢
  have hT : ∀ W, BB W (some ⟨b, off, none⟩) (ls.take k) → Calls Tryz.prog 172 #[.slice (some ⟨b, off, none⟩) k cap] W fun e w' => e = .returned (hashVal (Pl.root (ls.take k))) ∧ Below W.heap.size W w' := by
    intro W hW
    have := ih (ls.take k) (some ⟨b, off, none⟩) cap W (by simp; omega) hW (by simp; omega)
    rwa [List.length_take, Nat.min_eq_left (Nat.le_of_lt hk2)] at this
  have hD : ∀ W, BB W (some ⟨b, off + k, none⟩) (ls.drop k) → Calls Tryz.prog 172 #[.slice (some ⟨b, off + k, none⟩) (ls.length - k) (cap - k)] W fun e w' => e = .returned (hashVal (Pl.root (ls.drop k))) ∧ Below W.heap.size W w' := by
    intro W hW
    have := ih (ls.drop k) (some ⟨b, off + k, none⟩) (cap - k) W (by simp; omega) hW (by simp; omega)
    rwa [List.length_drop] at this
  have ht := Lib.hid (hb.take k)
  have hd := Lib.hid (hb.drop k)
  have HT := Lib.hid hT
  have HD := Lib.hid hD
  have HK := Lib.hid hk
  obtain ⟨n, hnn⟩ : ∃ n, ls.length = n := ⟨_, rfl⟩
  rw [hnn] at hn hc hm hk2 ⊢
  have HN := Lib.hid hnn
  have q0 : ((n : Int) == 0) = false := by simp; omega
  have q1 : ((n : Int) == 1) = false := by simp; omega
  clear hT hD hk ih hb hnn
  go_enter Tryz.func172, Tryz.ntmps172
  go_wp2_with fail
  refine (half_any n _ (by omega) (by omega)).mono ?_
  rintro e w' ⟨rfl, rfl⟩
  rw [← HN.out, HK.out]
  have ht1 := Lib.hid (ht.out.keep (w' := w.alloc (.cells #[.int .u8 0, .int .u8 0, .int .u8 0, .int .u8 0] 200)) ((Below.refl _ _).alloc (Nat.le_refl _) _))
  have hd1 := Lib.hid (hd.out.keep (w' := w.alloc (.cells #[.int .u8 0, .int .u8 0, .int .u8 0, .int .u8 0] 200)) ((Below.refl _ _).alloc (Nat.le_refl _) _))
  have hB0 := Lib.hid (Blk.hash0 w)
  have hlt : k < cap := by have := HN.out; omega
  have hlc : ls.length ≤ cap := by have := HN.out; omega
  have hkl : k ≤ ls.length := by have := HN.out; omega
  have hx0 : (0 : Int) ≤ (k : Int) := by omega
  have hx1 : (k : Int) ≤ (cap : Int) := by omega
  have hx2 : (k : Int) ≤ (ls.length : Int) := by omega
  have hx3 : ¬ cap = k := by omega
  have hr1 := Pl.root_lt (ls.take k)
  have hr2 := Pl.root_lt (ls.drop k)
  go_wp2_with fail
  go_region_held3 (fun _ => True) (trivial) (first
    | (go_at_call 172; (with_reducible refine (HT.out _ ?_).mono ?_); exact ht1.out; rintro e w1 ⟨rfl, hb1'⟩; have hb1 := undrew hb1')
    | (go_at_call 172; (with_reducible refine (HD.out _ ?_).mono ?_); exact hd1.out.keep hb1; rintro e w2 ⟨rfl, hb2⟩)
    | (go_at_call 176; refine (node_any _ _ _ (by omega) (by omega)).mono ?_; rintro e w3 ⟨A3, cap3, rfl, hb3, hbel3⟩)
    | (go_at_call 149; refine (sum_any _ _ (1 :: (Pl.be 4 (Pl.root (ls.take k)) ++ Pl.be 4 (Pl.root (ls.drop k)))) _ hb3 (by simp [Pl.be_length])).mono ?_; rintro e w4 ⟨rfl, hbel4⟩
       have hall := root_join w w1 w2 w3 w4 _ hb1 hb2 hbel3 hbel4
       have hB4 := hB0.out.below hall.1 (by simp)
       obtain ⟨c0, c1, c2, c3, f0, f1, f2, f3⟩ := facts4 hB4
       have hB' := Lib.hid hB4
       have hall' := Lib.hid hall.2
       clear hB4 hall hb1 hb1' hb2 hbel3 hbel4 hb3
       unfold hashVal))
  go_wp2
  refine bodyPost_ret (v := hashVal (Pl.sumN (1 :: (Pl.be 4 (Pl.root (ls.take k)) ++ Pl.be 4 (Pl.root (ls.drop k)))))) (results_hash rfl rfl (hB'.out.set4 _ _ _ _)) rfl ⟨rfl, ?_⟩
  exact below_set4 hall'.out (Nat.le_refl _) _ _ _ _

theorem root_any (n : Nat) : ∀ (ls : List (List UInt8)) (A : Option Addr) (cap : Nat) (w : World), ls.length ≤ n → BB w A ls → ls.length ≤ cap → ls.length ≤ 4611686018427387903 →
    Calls Tryz.prog 172 #[.slice A ls.length cap] w fun e w' => e = .returned (hashVal (Pl.root ls)) ∧ Below w.heap.size w w' := by
  induction n with
  | zero =>
    intro ls A cap w hn hb hc hm
    obtain rfl : ls = [] := List.eq_nil_of_length_eq_zero (by omega)
    exact root_zero A cap w
  | succ n ih =>
    intro ls A cap w hn hb hc hm
    match ls, hn, hb, hc, hm with
    | [], _, _, _, _ => exact root_zero A cap w
    | [l], _, hb, _, _ =>
      obtain ⟨b, off, rfl⟩ := hb.addr (by simp)
      exact root_single l b off cap w hb
    | x :: y :: r, hn, hb, hc, hm =>
      obtain ⟨b, off, rfl⟩ := hb.addr (by simp)
      exact root_step (x :: y :: r) b off cap w (by simp) hb hc hm (fun ls' A cap w h1 h2 h3 => ih ls' A cap w (by omega) h2 h3 (by omega))
end Go.Proofs.YtljmklohgpaopaaGreatDoor

namespace Go.Proofs.YtljmklohgpaopaaGreatDoor
open Go.RowKit

def sv (ss : List ByteArray) : List Value := ss.map Value.string
def bl (ss : List ByteArray) : List (List UInt8) := ss.map fun s => s.data.toList
def hstr (n : Nat) : ByteArray := ⟨(Pl.hashText n).toArray⟩
theorem hstr_list (n : Nat) : (hstr n).data.toList = Pl.be 4 n := rfl
theorem hstr_size (n : Nat) : (hstr n).size = 4 := by
  show (Pl.hashText n).toArray.size = 4
  simp [Pl.hashText, Pl.be_length]
theorem sv_len (ss : List ByteArray) : (sv ss).length = ss.length := by simp [sv]
theorem bl_len (ss : List ByteArray) : (bl ss).length = ss.length := by simp [bl]
theorem bl_take (ss : List ByteArray) (k : Nat) : bl (ss.take k) = (bl ss).take k := by simp [bl]
theorem bl_drop (ss : List ByteArray) (k : Nat) : bl (ss.drop k) = (bl ss).drop k := by simp [bl]
theorem sv_take (ss : List ByteArray) (k : Nat) : sv (ss.take k) = (sv ss).take k := by simp [sv]
theorem sv_drop (ss : List ByteArray) (k : Nat) : sv (ss.drop k) = (sv ss).drop k := by simp [sv]
theorem Src.addr {w : World} {A : Option Addr} {cs : List Value} (h : Src w A cs) (hn : 0 < cs.length) : ∃ b off, A = some ⟨b, off, none⟩ := by
  rcases h with rfl | ⟨b, off, rfl, _⟩
  · simp at hn
  · exact ⟨b, off, rfl⟩
theorem Src.off {w : World} {b off : Nat} {cs : List Value} (h : Src w (some ⟨b, off, none⟩) cs) (k : Nat) : Src w (some ⟨b, off + k, none⟩) (cs.drop k) := by
  rcases h with rfl | ⟨b', off', e, h⟩
  · exact .inl (by simp)
  · cases e
    exact .inr ⟨_, _, rfl, fun j u hu => by rw [List.getElem?_drop] at hu; rw [Nat.add_assoc]; exact h _ u hu⟩
theorem Src.cell {w : World} {b off : Nat} {cs : List Value} (h : Src w (some ⟨b, off, none⟩) cs) (j : Nat) (u : Value) (hu : cs[j]? = some u) : w.cell? ⟨b, off + j, none⟩ = some u := by
  obtain ⟨b', off', e, hc⟩ := h.at_ j u hu
  cases e
  exact hc

theorem refSum_of (s : ByteArray) (l : List UInt8) (w : World) (hl : s.data.toList = l) (hm : l.length ≤ 9223372036854775807) :
    Calls Tryz.prog 14 #[.string s] w fun e w' => e = .returned (.string (hstr (Pl.sumN l))) ∧ Below w.heap.size w w' := by
  subst hl
  exact refSum_any s w hm

theorem refRoot_zero (A : Option Addr) (cap : Nat) (w : World) :
    Calls Tryz.prog 40 #[.slice A 0 cap] w fun e w' => e = .returned (.string (hstr (Pl.root []))) ∧ Below w.heap.size w w' := by
  rw [Pl.root_nil]
  go_enter Tryz.func40, Tryz.ntmps40
  go_wp2_with fail
  refine (refSum_of _ [] _ rfl (by simp)).mono ?_
  rintro e w1 ⟨rfl, hb1⟩
  go_wp2_with fail
  go_ret
  exact ⟨rfl, hb1⟩

theorem refRoot_single (s : ByteArray) (b off cap : Nat) (w : World) (hs : s.size ≤ 140737488351232) (hb : Src w (some ⟨b, off, none⟩) (sv [s])) :
    Calls Tryz.prog 40 #[.slice (some ⟨b, off, none⟩) 1 cap] w fun e w' => e = .returned (.string (hstr (Pl.root [s.data.toList]))) ∧ Below w.heap.size w w' := by
  rw [Pl.root_one]
  have hc := hb.cell 0 (.string s) rfl
  simp only [Nat.add_zero] at hc
  have hs2 : 1 + s.size ≤ 9223372036854775807 := by omega
  go_enter Tryz.func40, Tryz.ntmps40
  go_wp2_with fail
  refine (refSum_of _ (0 :: s.data.toList) _ (by simp) (by simp; omega)).mono ?_
  rintro e w1 ⟨rfl, hb1⟩
  go_wp2_with fail
  go_ret
  exact ⟨rfl, hb1⟩

set_option maxHeartbeats 1000000 in
theorem refRoot_step (ss : List ByteArray) (b off cap : Nat) (w : World) (hn : 2 ≤ ss.length) (hb : Src w (some ⟨b, off, none⟩) (sv ss)) (hc : ss.length ≤ cap) (hm : ss.length ≤ 4611686018427387903)
    (ih : ∀ (ss' : List ByteArray) (A : Option Addr) (cap : Nat) (w : World), ss'.length < ss.length → (∀ s ∈ ss', s ∈ ss) → Src w A (sv ss') → ss'.length ≤ cap →
      Calls Tryz.prog 40 #[.slice A ss'.length cap] w fun e w' => e = .returned (.string (hstr (Pl.root (bl ss')))) ∧ Below w.heap.size w w') :
    Calls Tryz.prog 40 #[.slice (some ⟨b, off, none⟩) ss.length cap] w fun e w' => e = .returned (.string (hstr (Pl.root (bl ss)))) ∧ Below w.heap.size w w' := by
  rw [Pl.root_many (bl ss) (by rw [bl_len]; exact hn), bl_len]
  obtain ⟨k, hk⟩ : ∃ k, Pl.half ss.length = k := ⟨_, rfl⟩
  have hk1 := Pl.half_pos ss.length
  have hk2 := Pl.half_lt hn
  rw [hk] at hk1 hk2 ⊢
  have hT : ∀ W, Src W (some ⟨b, off, none⟩) (sv (ss.take k)) → Calls Tryz.prog 40 #[.slice (some ⟨b, off, none⟩) k cap] W fun e w' => e = .returned (.string (hstr (Pl.root ((bl ss).take k)))) ∧ Below W.heap.size W w' := by
    intro W hW
    have := ih (ss.take k) (some ⟨b, off, none⟩) cap W (by simp; omega) (fun s hs => List.mem_of_mem_take hs) hW (by simp; omega)
    rwa [List.length_take, Nat.min_eq_left (Nat.le_of_lt hk2), bl_take] at this
  have hD : ∀ W, Src W (some ⟨b, off + k, none⟩) (sv (ss.drop k)) → Calls Tryz.prog 40 #[.slice (some ⟨b, off + k, none⟩) (ss.length - k) (cap - k)] W fun e w' => e = .returned (.string (hstr (Pl.root ((bl ss).drop k)))) ∧ Below W.heap.size W w' := by
    intro W hW
    have := ih (ss.drop k) (some ⟨b, off + k, none⟩) (cap - k) W (by rw [List.length_drop]; omega) (fun s hs => List.mem_of_mem_drop hs) hW (by rw [List.length_drop]; omega)
    rwa [List.length_drop, bl_drop] at this
  have ht := Lib.hid (show Src w (some ⟨b, off, none⟩) (sv (ss.take k)) by rw [sv_take]; exact hb.take k)
  have hd := Lib.hid (show Src w (some ⟨b, off + k, none⟩) (sv (ss.drop k)) by rw [sv_drop]; exact hb.off k)
  have HT := Lib.hid hT
  have HD := Lib.hid hD
  have HK := Lib.hid hk
  have hx0 : (0 : Int) ≤ (k : Int) := by omega
  have hx1 : (k : Int) ≤ (cap : Int) := by omega
  have hx2 : (k : Int) ≤ (ss.length : Int) := by omega
  have hx3 : ¬ cap = k := by omega
  have q0 : ((ss.length : Int) == 0) = false := beq_eq_false_iff_ne.2 (by omega)
  have q1 : ((ss.length : Int) == 1) = false := beq_eq_false_iff_ne.2 (by omega)
  have z1 := hstr_size (Pl.root ((bl ss).take k))
  have z2 := hstr_size (Pl.root ((bl ss).drop k))
  clear hT hD hk ih hb
  go_enter Tryz.func40, Tryz.ntmps40
  go_wp2_with fail
  refine (refHalf_any ss.length _ (by omega) (by omega)).mono ?_
  rintro e w' ⟨rfl, rfl⟩
  rw [HK.out]
  go_wp2_with fail
  refine (HT.out _ ht.out).mono ?_
  rintro e w1 ⟨rfl, hb1⟩
  go_wp2_with fail
  refine (HD.out _ (hd.out.below hb1)).mono ?_
  rintro e w2 ⟨rfl, hb2⟩
  go_wp2_with fail
  refine (refSum_of _ (1 :: (Pl.be 4 (Pl.root ((bl ss).take k)) ++ Pl.be 4 (Pl.root ((bl ss).drop k)))) _ (by simp [hstr_list]) (by simp [Pl.be_length])).mono ?_
  rintro e w3 ⟨rfl, hb3⟩
  go_wp2_with fail
  go_ret
  have h12 := hb1.trans (hb2.mono hb1.size)
  exact ⟨rfl, h12.trans (hb3.mono h12.size)⟩

theorem refRoot_any (n : Nat) : ∀ (ss : List ByteArray) (A : Option Addr) (cap : Nat) (w : World), ss.length ≤ n → (∀ s ∈ ss, s.size ≤ 140737488351232) → Src w A (sv ss) → ss.length ≤ cap → ss.length ≤ 4611686018427387903 →
    Calls Tryz.prog 40 #[.slice A ss.length cap] w fun e w' => e = .returned (.string (hstr (Pl.root (bl ss)))) ∧ Below w.heap.size w w' := by
  induction n with
  | zero =>
    intro ss A cap w hn hs hb hc hm
    obtain rfl : ss = [] := List.eq_nil_of_length_eq_zero (by omega)
    exact refRoot_zero A cap w
  | succ n ih =>
    intro ss A cap w hn hs hb hc hm
    match ss, hn, hs, hb, hc, hm with
    | [], _, _, _, _, _ => exact refRoot_zero A cap w
    | [s], _, hs, hb, _, _ =>
      obtain ⟨b, off, rfl⟩ := hb.addr (by simp [sv])
      exact refRoot_single s b off cap w (hs s (by simp)) hb
    | x :: y :: r, hn, hs, hb, hc, hm =>
      obtain ⟨b, off, rfl⟩ := hb.addr (by simp [sv])
      exact refRoot_step (x :: y :: r) b off cap w (by simp) hb hc hm (fun ss' A cap w h1 h2 h3 h4 => ih ss' A cap w (by omega) (fun s hx => hs s (h2 s hx)) h3 h4 (by omega))
end Go.Proofs.YtljmklohgpaopaaGreatDoor

namespace Go.Proofs.YtljmklohgpaopaaGreatDoor
open Go.ChangeShapes Go.WideShapes Go.ChangeAt Go.RowKit
set_option linter.unusedVariables false

section
variable {H : Type} {enc : TypeId × Value → H} {P : Program} {W W' : World}
theorem args_stay (hl : laidOutB P = true) (hb : Below W.heap.size W W') : ∀ (ts : List TypeId) (vs : List Value) (ds : List (DataW H)) (ps : List MemPlace), (∀ t ∈ ts, P.readableRec t = true ∧ t < P.types.size) →
    DataW.TrodAll enc P W 0 (fun _ => true) true ts vs ds ps → (∀ x ∈ ps, x.block < W.heap.size) → DataW.TrodAll enc P W' 0 (fun b => decide (b < W.heap.size)) true ts vs ds ps
  | [], vs, ds, ps, _, h, _ => by
    obtain ⟨rfl, rfl, rfl⟩ := trodAll_nil h
    exact trodAll_mk0
  | t :: ts, vs, ds, ps, hr, h, hlt => by
    obtain ⟨v, vs', d, ds', p, q, rfl, rfl, rfl, hd, hrest⟩ := trodAll_cons h
    have h1 := hr t (by simp)
    exact trodAll_cons_mk (Below.trod hl h1.1 h1.2 hd hb (fun x hx => hlt x (by simp [hx]))) (args_stay hl hb ts vs' ds' q (fun t' ht => hr t' (by simp [ht])) hrest (fun x hx => hlt x (by simp [hx])))

theorem weightsAll_mem {e : TypeId} : ∀ {l : List (DataW H)} {d : DataW H}, d ∈ l → ∀ n ∈ d.weights P e, n ∈ DataW.weightsAll P e l
  | d' :: r, d, hd, n, hn => by
    simp only [DataW.weightsAll, List.mem_append]
    rcases List.mem_cons.1 hd with rfl | h
    · exact Or.inl hn
    · exact Or.inr (weightsAll_mem h n hn)
theorem sized_inner_str {ts : List TypeId} {ds : List (DataW H)} (h : (DataW.weightsEach P ts ds).all (· ≤ reachBytes) = true) {j : Nat} {t e : TypeId} {elems spare : List (DataW H)} {bytes : List UInt8}
    (ht : ts[j]? = some t) (hd : ds[j]? = some (.slice elems spare)) (hu : P.underlying t = some (.slice e)) (hx : DataW.lit (.string bytes) ∈ elems) : bytes.length ≤ reachBytes := by
  refine of_decide_eq_true (List.all_eq_true.1 h _ (DataW.weights_mem_each ht hd _ ?_))
  simp only [DataW.weights, hu, List.mem_cons, List.mem_append]
  exact Or.inr (Or.inl (weightsAll_mem hx _ (by simp [DataW.weights])))

theorem spot_none {w : World} {b o : Nat} {sp : Option Nat} {v : Value} (h : w.cell? ⟨b, o, sp⟩ = some v) : sp = none := by
  cases sp with
  | none => rfl
  | some x =>
    unfold World.cell? at h
    split at h <;> simp at h

/-- A slice of strings among the arguments, opened. -/
theorem open_strs_src {ts : List TypeId} {ds : List (DataW H)} (hsz : (DataW.weightsEach P ts ds).all (· ≤ reachBytes) = true) {j : Nat} {t e : TypeId} {v : Value} {d : DataW H} {p : List MemPlace} {base : Nat}
    (hu : P.underlying t = some (.slice e)) (he : P.underlying e = some .string) (hc : P.cellsOf e = 1) (hby : P.bytesOf e = 16) (hval : Value.okWide P W .any base t v) (hd : DataW.Trod enc P W 0 (fun _ => true) true t v d p) (hj : ts[j]? = some t) (hdj : ds[j]? = some d) :
    ∃ A cap ss, v = .slice A ss.length cap ∧ Src W A (sv ss) ∧ ss.length ≤ cap ∧ ss.length ≤ 8796093022208 ∧ ∀ s ∈ ss, s.size ≤ 140737488351232 := by
  obtain ⟨a0, len, cap, rfl⟩ := okWide_slice hu hval
  obtain ⟨fuel, hf⟩ := hd
  rcases open_strings hu he hc hf with ⟨hcs, hx⟩ | ⟨a, len', cap', ss, hcs, _, hl, hm, hz, hx, hcell, _⟩
  · have : a0 = none ∧ len = 0 ∧ cap = 0 := by simpa [Value.cells] using hcs
    obtain ⟨rfl, rfl, rfl⟩ := this
    exact ⟨none, 0, [], rfl, .inl rfl, Nat.le_refl _, by simp, by simp⟩
  · have : a0 = some a ∧ len = len' ∧ cap = cap' := by simpa [Value.cells] using hcs
    obtain ⟨rfl, rfl, rfl⟩ := this
    simp only [if_true] at hz
    have hd' : d = .slice (strs (ss.take len)) (strs (ss.drop len)) := congrArg Prod.fst hx
    subst hd'
    have hlen : (ss.take len).length = len := by rw [List.length_take]; omega
    refine ⟨some a, cap, ss.take len, by rw [hlen], ?_, by omega, ?_, ?_⟩
    · by_cases h0 : len = 0
      · left; subst h0; simp [sv]
      · have hc0 := hcell 0 (by omega)
        have ha : a = ⟨a.block, a.off, none⟩ := by
          cases a with
          | mk bk of sp =>
            have h1 : (⟨bk, of, sp⟩ : Addr).add 0 = ⟨bk, of, sp⟩ := rfl
            rw [h1] at hc0
            rw [spot_none hc0]
        refine .inr ⟨a.block, a.off, by rw [← ha], fun i u hui => ?_⟩
        simp only [sv, List.getElem?_map, Option.map_eq_some_iff] at hui
        obtain ⟨s, hs, rfl⟩ := hui
        have hi : i < len := by
          rcases Nat.lt_or_ge i len with h' | h'
          · exact h'
          · rw [List.getElem?_eq_none (by omega)] at hs; cases hs
        have := hcell i (by omega)
        rw [ha, addr_add] at this
        rw [List.getElem?_take, if_pos hi] at hs
        rw [this, List.getD, hs]
        rfl
    · have := sized_slice hsz hj hdj hu
      rw [hby] at this
      simp only [strs, List.length_map, reachBytes] at this
      rw [hlen]
      rw [hlen] at this
      omega
    · intro s hs
      have := sized_inner_str hsz hj hdj hu (bytes := s.data.toList) (by simp only [strs, List.mem_map]; exact ⟨s, hs, rfl⟩)
      simpa [reachBytes] using this
end
end Go.Proofs.YtljmklohgpaopaaGreatDoor

namespace Go.Proofs.YtljmklohgpaopaaGreatDoor
open Go.RowKit

/-- Of the blocks that were there only those of F may have changed. -/
structure Only (F : Nat → Prop) (w w' : World) : Prop where
  os : w'.os = w.os
  tape : w'.tape = w.tape
  output : w'.output = w.output
  size : w.heap.size ≤ w'.heap.size
  block : ∀ k, k < w.heap.size → ¬ F k → w'.heap[k]? = w.heap[k]?

section
variable {F G : Nat → Prop} {a b c w w' : World}
theorem Only.refl (F : Nat → Prop) (w : World) : Only F w w := ⟨rfl, rfl, rfl, Nat.le_refl _, fun _ _ _ => rfl⟩
theorem Only.trans (h : Only F a b) (k : Only G b c) (hG : ∀ x, x < a.heap.size → G x → F x) : Only F a c :=
  ⟨k.os.trans h.os, k.tape.trans h.tape, k.output.trans h.output, Nat.le_trans h.size k.size, fun i hi hn => (k.block i (Nat.lt_of_lt_of_le hi h.size) (fun hg => hn (hG i hi hg))).trans (h.block i hi hn)⟩
theorem Only.trans' (h : Only F a b) (k : Only F b c) : Only F a c := h.trans k (fun _ _ hx => hx)
theorem Only.mono (h : Only F a b) (hG : ∀ x, x < a.heap.size → F x → G x) : Only G a b := ⟨h.os, h.tape, h.output, h.size, fun i hi hn => h.block i hi (fun hf => hn (hG i hi hf))⟩
theorem Only.drew (h : Only F a w) : Only F a w.drew := ⟨h.os, h.tape, h.output, h.size, h.block⟩
theorem Only.drewN (h : Only F a w) (n : Nat) : Only F a (w.drewN n) := ⟨h.os, h.tape, h.output, h.size, h.block⟩
theorem Only.undrew (h : Only F a.drew w) : Only F a w := ⟨h.os, h.tape, h.output, h.size, h.block⟩
theorem Only.alloc (h : Only F a w) (o : Obj) : Only F a (w.alloc o) :=
  ⟨h.os, h.tape, h.output, Nat.le_trans h.size (by simp), fun i hi hn => (Below.heap_alloc w o i (Nat.lt_of_lt_of_le hi h.size)).trans (h.block i hi hn)⟩
theorem Only.setCell (h : Only F a w) {p : Addr} (hp : F p.block ∨ a.heap.size ≤ p.block) (u : Value) : Only F a (w.setCell p u) :=
  ⟨h.os, h.tape, h.output, by simpa [World.setCell] using h.size, fun i hi hn => (Below.heap_setCell w p u i (by
    rintro rfl
    rcases hp with hp | hp
    · exact hn hp
    · omega)).trans (h.block i hi hn)⟩
theorem Only.setRow (h : Only F a w) {g : Nat} (hp : F g ∨ a.heap.size ≤ g) (cs : Array Value) : Only F a (w.setRow g cs) :=
  ⟨h.os, h.tape, h.output, by simpa [World.setRow] using h.size, fun i hi hn => (setRow_other w g i cs (by
    rintro rfl
    rcases hp with hp | hp
    · exact hn hp
    · omega)).trans (h.block i hi hn)⟩
theorem Only.of_below (h : Below a.heap.size a w) (F : Nat → Prop) : Only F a w := ⟨h.os, h.tape, h.output, h.size, fun i hi _ => h.block i hi⟩
theorem Only.below (h : Only F a w) (k : Below w.heap.size w w') : Only F a w' := h.trans (Only.of_below k (fun _ => False)) (fun _ _ hx => hx.elim)
theorem Only.grown (h : Only F a w) {row : Option Nat} (k : w.grownBy w' row) (hr : ∀ g, row = some g → F g ∨ a.heap.size ≤ g) : Only F a w' :=
  ⟨k.os.trans h.os, k.tape.trans h.tape, k.output.trans h.output, Nat.le_trans h.size k.size, fun i hi hn => (k.block i (Nat.lt_of_lt_of_le hi h.size) (fun e => by
    rcases hr i e.symm with hf | hf
    · exact hn hf
    · omega)).trans (h.block i hi hn)⟩
theorem Only.toBelow (h : Only F a w) {B : Nat} (hB : B ≤ a.heap.size) (hF : ∀ k, k < B → ¬ F k) : Below B a w := ⟨h.os, h.tape, h.output, h.size, fun k hk => h.block k (Nat.lt_of_lt_of_le hk hB) (hF k hk)⟩
theorem Only.of_grown {g : Nat} (h : w.grownBy w' (some g)) : Only (· = g) w w' := ⟨h.os, h.tape, h.output, h.size, fun k hk hn => h.block k hk (fun e => hn (Option.some.inj e))⟩
theorem Only.to_grown {g : Nat} (h : Only (· = g) w w') : w.grownBy w' (some g) := ⟨h.os, h.tape, h.output, h.size, fun k hk hn => h.block k hk (fun e => hn (by rw [e]))⟩

theorem Only.blk {g : Nat} {t : TypeId} {cs : List Value} (h : Only F w w') (hb : Blk w g t cs) (hg : ¬ F g) : Blk w' g t cs := (h.block g hb.lt hg).trans hb
theorem Only.cell (h : Only F w w') {p : Addr} {u : Value} (hp : w.cell? p = some u) (hn : ¬ F p.block) : w'.cell? p = some u :=
  (World.cell?_of_block (h.block p.block (World.block_lt_of_cell? _ _ hp) hn)).trans hp
theorem Only.src {A : Option Addr} {cs : List Value} (h : Only F w w') (hs : Src w A cs) (hA : ∀ p, A = some p → ¬ F p.block) : Src w' A cs := by
  rcases hs with hs | ⟨b, off, rfl, hs⟩
  · exact .inl hs
  · exact .inr ⟨b, off, rfl, fun j u hu => h.cell (hs j u hu) (hA ⟨b, off, none⟩ rfl)⟩
theorem Only.bytes {A : Option Addr} {l : List UInt8} (h : Only F w w') (hs : BytesAt w A l) (hA : ∀ p, A = some p → ¬ F p.block) : BytesAt w' A l := Src.bytes (h.src hs.src hA)
theorem Only.own {base n size : Nat} {e : TypeId} {v : Value} {xs : List Value} (h : Only F w w') (hs : w.ownsRow base e size v n xs) (hv : ∀ g, v.ownBlock = some g → ¬ F g) : w'.ownsRow base e size v n xs := by
  refine ⟨hs.1, ?_⟩
  rcases hs.2 with hn | ⟨g, cap, cur, rfl, hb, hg, rest⟩
  · exact .inl hn
  · refine .inr ⟨g, cap, cur, rfl, hb, ?_, rest⟩
    rw [h.block g (Array.getElem?_eq_some_iff.1 hg).1 (hv g rfl)]
    exact hg
end
end Go.Proofs.YtljmklohgpaopaaGreatDoor

namespace Go.Proofs.YtljmklohgpaopaaGreatDoor
namespace Pl

theorem be_get (s x j : Nat) (h : j < s) : (be s x)[j]? = some (UInt8.ofNat (x / 256 ^ (s - 1 - j))) := by
  induction s generalizing j with
  | zero => omega
  | succ s ih =>
    match j with
    | 0 => simp [be]
    | j + 1 =>
      rw [be, List.getElem?_cons_succ, ih j (by omega)]
      congr 4
      omega
theorem be_take_succ (s x j : Nat) (h : j < s) : (be s x).take (j + 1) = (be s x).take j ++ [UInt8.ofNat (x / 256 ^ (s - 1 - j))] := by
  have hl : j < (be s x).length := by rw [be_length]; exact h
  rw [List.take_succ_eq_append_getElem hl]
  have := be_get s x j h
  rw [List.getElem?_eq_getElem hl] at this
  rw [Option.some.inj this]

/-- A header: its block, the hash ahead, the root. -/
def header (b h r : Nat) : List UInt8 := 66 :: (be 4 b ++ be 4 h ++ be 4 r)
theorem header_length (b h r : Nat) : (header b h r).length = 13 := by simp [header, be_length]
end Pl
end Go.Proofs.YtljmklohgpaopaaGreatDoor
