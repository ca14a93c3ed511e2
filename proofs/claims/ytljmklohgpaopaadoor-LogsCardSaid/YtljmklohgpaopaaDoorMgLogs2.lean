/- Laws over any program on slices that the call owns: append from whatever source, with Go's own bound on room. Plain facts on trees of sums: no program in sight. The walks of sums.Leaf, Half, Node and of the reference's half. The walks of sums.Node and Root. The walk of sums.Root. The walks of the reference's Root, Path, Deep, Climb. -/
import Derived.Test.YtljmklohgpaopaaDoorMgLogs1
import Derived.Deep.AppendLies
import Derived.RegionTactic
import Derived.OwnWalk
import Derived.Deep.RegionWith
import Derived.Deep.RegionHeld3

namespace Go.Proofs.YtljmklohgpaopaaDoor
open Go.RowKit

/-- The address leads to these cells (of none nothing is asked). -/
def Src (w : World) (A : Option Addr) (cs : List Value) : Prop :=
  cs = [] ∨ ∃ b off, A = some ⟨b, off, none⟩ ∧ ∀ j u, cs[j]? = some u → w.cell? ⟨b, off + j, none⟩ = some u

theorem Src.nil (w : World) (A : Option Addr) : Src w A [] := .inl rfl
theorem Src.of_blk {w : World} {g : Nat} {t : TypeId} {cs : List Value} (h : Blk w g t cs) : Src w (some ⟨g, 0, none⟩) cs :=
  .inr ⟨_, _, rfl, fun j u hu => by rw [Nat.zero_add, h.cell, hu]⟩
theorem Src.of_blk_take {w : World} {g : Nat} {t : TypeId} {cs : List Value} (h : Blk w g t cs) (n : Nat) : Src w (some ⟨g, 0, none⟩) (cs.take n) :=
  .inr ⟨_, _, rfl, fun j u hu => by
    rw [Nat.zero_add, h.cell]
    rw [List.getElem?_take] at hu
    split at hu
    · exact hu
    · cases hu⟩
theorem Src.at_ {w : World} {A : Option Addr} {cs : List Value} (h : Src w A cs) (j : Nat) (u : Value) (hu : cs[j]? = some u) :
    ∃ b off, A = some ⟨b, off, none⟩ ∧ w.cell? ⟨b, off + j, none⟩ = some u := by
  rcases h with rfl | ⟨b, off, rfl, h⟩
  · cases hu
  · exact ⟨b, off, rfl, h j u hu⟩
theorem Src.keep {w w' : World} {A : Option Addr} {cs : List Value} (h : Src w A cs) (hk : ∀ p u, w.cell? p = some u → w'.cell? p = some u) : Src w' A cs := by
  rcases h with h | ⟨b, off, rfl, h⟩
  · exact .inl h
  · exact .inr ⟨b, off, rfl, fun j u hu => hk _ _ (h j u hu)⟩
theorem below_keeps {w w' : World} (hb : Below w.heap.size w w') (p : Addr) (u : Value) (h : w.cell? p = some u) : w'.cell? p = some u :=
  (hb.cell (World.block_lt_of_cell? _ _ h)).trans h
theorem Src.below {w w' : World} {A : Option Addr} {cs : List Value} (h : Src w A cs) (hb : Below w.heap.size w w') : Src w' A cs := h.keep (below_keeps hb)
theorem Src.take {w : World} {A : Option Addr} {cs : List Value} (h : Src w A cs) (n : Nat) : Src w A (cs.take n) := by
  rcases h with rfl | ⟨b, off, rfl, h⟩
  · exact .inl (by simp)
  · exact .inr ⟨b, off, rfl, fun j u hu => by
      rw [List.getElem?_take] at hu
      split at hu
      · exact h j u hu
      · cases hu⟩
/-- What stands behind a cut 's[k:]': its address is the old one where the cut is at the capacity. -/
theorem Src.drop {w : World} {A : Option Addr} {cs : List Value} (h : Src w A cs) (n cap k : Nat) (hn : n = k → cs.length ≤ k) : Src w (if cap = n then A else A.map (·.add k)) (cs.drop k) ∨ cap = n := by
  by_cases hc : cap = n
  · exact .inr hc
  · left
    rw [if_neg hc]
    rcases h with rfl | ⟨b, off, rfl, h⟩
    · exact .inl (by simp)
    · refine .inr ⟨b, off + k, by simp [addr_add], fun j u hu => ?_⟩
      rw [List.getElem?_drop] at hu
      rw [Nat.add_assoc]
      exact h _ u hu

theorem own_src {w : World} {base : Nat} {e : TypeId} {size n : Nat} {v : Value} {xs : List Value} (h : w.ownsRow base e size v n xs) : ∃ A cap, v = .slice A n cap ∧ n ≤ cap ∧ Src w A xs ∧ (∀ a, A = some a → v.ownBlock = some a.block) := by
  rcases h.2 with ⟨rfl, rfl⟩ | ⟨g, cap, cur, rfl, _, hg, hnc, _, hcs, htake⟩
  · exact ⟨none, 0, rfl, Nat.le_refl _, .inl (List.eq_nil_of_length_eq_zero (by simpa using h.1)), fun a ha => by cases ha⟩
  · refine ⟨_, cap, rfl, hnc, .inr ⟨g, 0, rfl, fun j u hu => ?_⟩, fun a ha => by cases ha; rfl⟩
    have := h.cells (g := g) rfl j u hu
    rwa [addr_add] at this

theorem nextslicecap_le54 {need old : Nat} (h : old < need) : Builtin.nextslicecap need old ≤ need + need / 4 + 512 := by
  unfold Builtin.nextslicecap
  split
  · omega
  · split
    · omega
    · rw [growBy_four]
      split
      · omega
      · split
        · omega
        · split
          · omega
          · split <;> omega

section
variable {P : Program} (w : World)

theorem run_append_of_nil (base : Nat) (t ty e : TypeId) (i : TypeInfo) (size : Nat) (ht : P.underlying t = some (.slice e)) (hi : P.info? e = some i)
    (v : Value) (n : Nat) (xs : List Value) (hown : w.ownsRow base e size v n xs) (c : Nat) : (Builtin.append_ #[t, t] ty #[v, .slice none 0 c]).run P w = .ok v w := by
  rcases hown.2 with ⟨rfl, rfl⟩ | ⟨g, cap, cur, rfl, _, _, hnc, _⟩
  · simp [Builtin.append_, run_underlying ht, sizeOf, typeInfo, hi, Builtin.lenOf, Builtin.firstCells]
  · simp [Builtin.append_, run_underlying ht, sizeOf, typeInfo, hi, Builtin.lenOf, Builtin.firstCells, hnc, storeCells]

theorem run_append_addr (base : Nat) (t ty e : TypeId) (i : TypeInfo) (z : Value) (size bytes : Nat) (ht : P.underlying t = some (.slice e)) (hi : P.info? e = some i) (hz : i.zero = some z)
    (hsize : i.size = size) (hby : i.bytes = bytes) (hzs : z.cells.size = size) (hsz : 0 < size)
    (v : Value) (n : Nat) (xs : List Value) (hown : w.ownsRow base e size v n xs)
    (a : Addr) (m c : Nat) (news : List Value) (hl : news.length = m * size) (hnews : ∀ j u, news[j]? = some u → w.cell? (a.add j) = some u) (h1 : ∀ u ∈ news, u.oneCell' = true)
    (h63 : n + m ≤ maxLen) (hbytes : ∀ old, old < n + m → Builtin.nextslicecap (n + m) old * bytes ≤ 281474976710656) (hbase : base ≤ w.heap.size) :
    ∃ v' w', (Builtin.append_ #[t, t] ty #[v, .slice (some a) m c]).run P w = .ok v' w' ∧ w'.ownsRow base e size v' (n + m) (xs ++ news) ∧ w.grownBy w' v.ownBlock ∧
      (v'.ownBlock = v.ownBlock ∨ v'.ownBlock = some w.heap.size) := by
  subst hsize
  subst hby
  have hsmall : n + m ≤ 9223372036854775807 := by simp only [maxLen] at h63; omega
  have hlen : (xs ++ news).length = (n + m) * i.size := by rw [List.length_append, hown.1, hl, Nat.add_mul]
  have grown : ∀ (old : Nat), old < n + m → ∀ (row : Option Nat),
      (w.drew.alloc (.cells (xs.toArray ++ news.toArray ++ Builtin.zeroCells z.cells (grownCap w (n + m) old e - (n + m))) e)).ownsRow base e i.size
        (.slice (some ⟨w.heap.size, 0, none⟩) (n + m) (grownCap w (n + m) old e)) (n + m) (xs ++ news) ∧
      w.grownBy (w.drew.alloc (.cells (xs.toArray ++ news.toArray ++ Builtin.zeroCells z.cells (grownCap w (n + m) old e - (n + m))) e)) row := by
    intro old ho row
    have hge := grownCap_ge w (n + m) old e
    have hcm : grownCap w (n + m) old e ≤ maxLen := grownCap_le_maxLen w (n + m) old e h63
    refine ⟨⟨hlen, .inr ⟨w.heap.size, _, _, rfl, hbase, heap_alloc_new w.drew _, hge, hcm, ?_, ?_⟩⟩, ⟨rfl, rfl, rfl, by simp, fun k hk _ => Below.heap_alloc w.drew _ k hk⟩⟩
    · simp only [Array.size_append, List.size_toArray, size_zeroCells, hzs, hown.1, hl, ← Nat.add_mul]
      congr 1
      omega
    · simp only [Array.toList_append, List.append_assoc]
      rw [← List.append_assoc, ← hlen]
      exact List.take_left
  rcases hown.2 with ⟨rfl, rfl⟩ | ⟨g, cap, cur, rfl, hbg, hg, hnc, hcm, hcs, htake⟩
  · have hx : xs = [] := List.eq_nil_of_length_eq_zero (by simpa using hown.1)
    subst hx
    by_cases hm : m = 0
    · subst hm
      have hn : news = [] := List.eq_nil_of_length_eq_zero (by simpa using hl)
      subst hn
      refine ⟨.slice none 0 0, w, ?_, World.ownsRow_nil w base e i.size, ⟨rfl, rfl, rfl, Nat.le_refl _, fun _ _ _ => rfl⟩, Or.inl rfl⟩
      simp [Builtin.append_, run_underlying ht, sizeOf, typeInfo, hi, Builtin.lenOf, Builtin.firstCells, loadCells, loadCellsFrom]
    · have hb0 := hbytes 0 (by omega)
      rw [nextslicecap_zero (by omega)] at hb0
      simp only [Nat.zero_add] at hb0
      have hr := run_append_nil (P := P) w t ty e i z ht hi hz a m c news hl hnews (by omega) (by omega) hb0
      have hgr := grown 0 (by omega) (Value.ownBlock (.slice none 0 0))
      simp only [Nat.zero_add, List.nil_append, Array.empty_append] at hgr ⊢
      exact ⟨_, _, hr, hgr.1, hgr.2, Or.inr rfl⟩
  · by_cases hroom : n + m ≤ cap
    · have hfit : n * i.size + news.length ≤ cur.size := by rw [hl, hcs, ← Nat.add_mul]; exact Nat.mul_le_mul_right _ hroom
      have hr := run_append_room (P := P) w t ty e i ht hi g n cap cur hg a m c news hl hnews h1 hroom hfit
      refine ⟨_, _, hr, ⟨hlen, .inr ⟨g, cap, _, rfl, hbg, setRow_heap w g cur _ e _ hg, hroom, hcm, ?_, ?_⟩⟩, ⟨rfl, rfl, rfl, by simp, fun k _ hk => setRow_other w g k _ (fun e => hk (by simp [Value.ownBlock, e]))⟩, Or.inl rfl⟩
      · simp only [List.size_toArray, List.length_append, List.length_take, List.length_drop, Array.length_toList]
        omega
      · rw [htake, ← hlen]
        exact List.take_left
    · have holds : ∀ j u, xs[j]? = some u → w.cell? ((⟨g, 0, none⟩ : Addr).add j) = some u := hown.cells (g := g) rfl
      have hr := run_append_grow (P := P) w t ty e i z ht hi hz ⟨g, 0, none⟩ n cap xs hown.1 holds a m c news hl hnews (by omega) (by omega) (hbytes cap (by omega))
      have hgr := grown cap (by omega) (Value.ownBlock (.slice (some ⟨g, 0, none⟩) n cap))
      exact ⟨_, _, hr, hgr.1, hgr.2, Or.inr rfl⟩

theorem run_append_src (base : Nat) (t ty e : TypeId) (i : TypeInfo) (z : Value) (size bytes : Nat) (ht : P.underlying t = some (.slice e)) (hi : P.info? e = some i) (hz : i.zero = some z)
    (hsize : i.size = size) (hby : i.bytes = bytes) (hzs : z.cells.size = size) (hsz : 0 < size)
    (v : Value) (n : Nat) (xs : List Value) (hown : w.ownsRow base e size v n xs)
    (A : Option Addr) (m c : Nat) (news : List Value) (hl : news.length = m * size) (hr : Src w A news) (h1 : ∀ u ∈ news, u.oneCell' = true)
    (h63 : n + m ≤ maxLen) (hbytes : ∀ old, old < n + m → Builtin.nextslicecap (n + m) old * bytes ≤ 281474976710656) (hbase : base ≤ w.heap.size) :
    ∃ v' w', (Builtin.append_ #[t, t] ty #[v, .slice A m c]).run P w = .ok v' w' ∧ w'.ownsRow base e size v' (n + m) (xs ++ news) ∧ w.grownBy w' v.ownBlock ∧
      (v'.ownBlock = v.ownBlock ∨ v'.ownBlock = some w.heap.size) := by
  rcases A with _ | ad
  · have hn : news = [] := by
      rcases hr with h | ⟨_, _, h, _⟩
      · exact h
      · cases h
    subst hn
    have hm : m = 0 := by
      rcases Nat.eq_zero_or_pos m with h0 | h0
      · exact h0
      · have := Nat.mul_pos h0 hsz; simp at hl; omega
    subst hm
    exact ⟨v, w, run_append_of_nil w base t ty e i size ht hi v n xs hown c, by simpa using hown, World.grownBy.refl w _, .inl rfl⟩
  · have hcells : ∀ j u, news[j]? = some u → w.cell? (ad.add j) = some u := by
      intro j u hu
      obtain ⟨b, off, h, hc⟩ := hr.at_ j u hu
      injection h with h
      subst h
      rw [addr_add]
      exact hc
    exact run_append_addr (P := P) w base t ty e i z size bytes ht hi hz hsize hby hzs hsz v n xs hown ad m c news hl hcells h1 h63 hbytes hbase

theorem wp_append_src {o : Oper} {a : Act} {K : Act → World → Prop} {Q : Exit → Act → World → Prop} (s x : Operand) (t : TypeId)
    (ho : o.op = .call { callee := .builtin .append, args := #[s, x], argTypes := #[t, t] })
    (base : Nat) (e : TypeId) (i : TypeInfo) (z : Value) (size bytes : Nat) (ht : P.underlying t = some (.slice e)) (hi : P.info? e = some i) (hz : i.zero = some z)
    (hsize : i.size = size) (hby : i.bytes = bytes) (hzs : z.cells.size = size) (hsz : 0 < size)
    (v : Value) (n : Nat) (xs : List Value) (hs : a.eval s = v) (hown : w.ownsRow base e size v n xs)
    (A : Option Addr) (m c : Nat) (news : List Value) (hx : a.eval x = .slice A m c) (hl : news.length = m * size) (hr : Src w A news) (h1 : ∀ u ∈ news, u.oneCell' = true)
    (h63 : n + m ≤ maxLen) (hbytes : ∀ old, old < n + m → Builtin.nextslicecap (n + m) old * bytes ≤ 281474976710656) (hbase : base ≤ w.heap.size)
    (h : ∀ v' w', w'.ownsRow base e size v' (n + m) (xs ++ news) → w.grownBy w' v.ownBlock → (v'.ownBlock = v.ownBlock ∨ v'.ownBlock = some w.heap.size) → K (a.put o.dst v') w') : o.wp P a w K Q := by
  obtain ⟨v', w', hrun, h2, h3, h4⟩ := run_append_src (P := P) w base t o.type e i z size bytes ht hi hz hsize hby hzs hsz v n xs hown A m c news hl hr h1 h63 hbytes hbase
  unfold Oper.wp execOp
  simp only [ho, resolve, invoke, builtin, Sem.run_bind, Sem.run_pure, Result.andThen_ok, List.map_toArray, List.map_cons, List.map_nil, hs, hx, hrun]
  exact h v' w' h2 h3 h4

theorem wpList_append_src {ops : Array Oper} {rest : List Oper} {o : Oper} {a : Act} {Q : Exit → Act → World → Prop} (hgd : o.guard = none) (s x : Operand) (t : TypeId)
    (ho : o.op = .call { callee := .builtin .append, args := #[s, x], argTypes := #[t, t] })
    (base : Nat) (e : TypeId) (i : TypeInfo) (z : Value) (size bytes : Nat) (ht : P.underlying t = some (.slice e)) (hi : P.info? e = some i) (hz : i.zero = some z)
    (hsize : i.size = size) (hby : i.bytes = bytes) (hzs : z.cells.size = size) (hsz : 0 < size)
    (v : Value) (n : Nat) (xs : List Value) (hs : a.eval s = v) (hown : w.ownsRow base e size v n xs)
    (A : Option Addr) (m c : Nat) (news : List Value) (hx : a.eval x = .slice A m c) (hl : news.length = m * size) (hr : Src w A news) (h1 : ∀ u ∈ news, u.oneCell' = true)
    (h63 : n + m ≤ maxLen) (hbytes : ∀ old, old < n + m → Builtin.nextslicecap (n + m) old * bytes ≤ 281474976710656) (hbase : base ≤ w.heap.size)
    (h : ∀ v' w', w'.ownsRow base e size v' (n + m) (xs ++ news) → w.grownBy w' v.ownBlock → (v'.ownBlock = v.ownBlock ∨ v'.ownBlock = some w.heap.size) → wpList P ops Q rest (a.put o.dst v') w') : wpList P ops Q (o :: rest) a w :=
  wpList_plain hgd fun _ hK => wp_append_src w s x t ho base e i z size bytes ht hi hz hsize hby hzs hsz v n xs hs hown A m c news hx hl hr h1 h63 hbytes hbase fun v' w' h2 h3 h4 => hK _ _ (h v' w' h2 h3 h4)

theorem step_append_src {ops : Array Oper} {o : Oper} {a : Act} {K : Act → World → Prop} {Q : Exit → Act → World → Prop} {E : Prop} (hgd : o.guard = none) (s x : Operand) (t : TypeId)
    (ho : o.op = .call { callee := .builtin .append, args := #[s, x], argTypes := #[t, t] })
    (base : Nat) (e : TypeId) (i : TypeInfo) (z : Value) (size bytes : Nat) (ht : P.underlying t = some (.slice e)) (hi : P.info? e = some i) (hz : i.zero = some z)
    (hsize : i.size = size) (hby : i.bytes = bytes) (hzs : z.cells.size = size) (hsz : 0 < size)
    (v : Value) (n : Nat) (xs : List Value) (hs : a.eval s = v) (hown : w.ownsRow base e size v n xs)
    (A : Option Addr) (m c : Nat) (news : List Value) (hx : a.eval x = .slice A m c) (hl : news.length = m * size) (hr : Src w A news) (h1 : ∀ u ∈ news, u.oneCell' = true)
    (h63 : n + m ≤ maxLen) (hbytes : ∀ old, old < n + m → Builtin.nextslicecap (n + m) old * bytes ≤ 281474976710656) (hbase : base ≤ w.heap.size)
    (h : ∀ v' w', w'.ownsRow base e size v' (n + m) (xs ++ news) → w.grownBy w' v.ownBlock → (v'.ownBlock = v.ownBlock ∨ v'.ownBlock = some w.heap.size) → K (a.put o.dst v') w') :
    if Region.wanted o (yielded ops a.tmps) = true then Oper.wp P o a w K Q else E := by
  have hw : Region.wanted o (yielded ops a.tmps) = true := by simp [Region.wanted, hgd]
  rw [if_pos hw]
  exact wp_append_src w s x t ho base e i z size bytes ht hi hz hsize hby hzs hsz v n xs hs hown A m c news hx hl hr h1 h63 hbytes hbase h
end
end Go.Proofs.YtljmklohgpaopaaDoor

namespace Go.Proofs.YtljmklohgpaopaaDoor
namespace Pl

/-- The greatest power of two below a number of leaves (of one: one). -/
def half (n : Nat) : Nat := 2 ^ Nat.log2 (n - 1)
theorem half_pos (n : Nat) : 0 < half n := Nat.two_pow_pos _
theorem half_lt {n : Nat} (h : 2 ≤ n) : half n < n := by
  have := Nat.log2_self_le (n := n - 1) (by omega)
  unfold half; omega
theorem half_of {n j : Nat} (h1 : j = 0 ∨ 2 ^ j < n) (h2 : n ≤ 2 * 2 ^ j) (hn : 1 ≤ n) : 2 ^ j = half n := by
  unfold half
  congr 1
  rcases Nat.lt_or_ge 1 n with h | h
  · have hne : n - 1 ≠ 0 := by omega
    have hj : 2 ^ j ≤ n - 1 := by rcases h1 with rfl | h1 <;> simp_all <;> omega
    have hlt : n - 1 < 2 ^ (j + 1) := by rw [Nat.pow_succ]; omega
    exact ((Nat.log2_eq_iff hne).2 ⟨hj, hlt⟩).symm
  · obtain rfl : n = 1 := by omega
    rcases h1 with rfl | h1
    · simp
    · have := Nat.two_pow_pos j; omega

/-- The root of a tree, as a number. -/
def root (ls : List (List UInt8)) : Nat :=
  match ls with
  | [] => sumN []
  | [l] => sumN (0 :: l)
  | a :: b :: r => sumN (1 :: (be 4 (root ((a :: b :: r).take (half (r.length + 2)))) ++ be 4 (root ((a :: b :: r).drop (half (r.length + 2))))))
termination_by ls.length
decreasing_by
  all_goals
    have h1 := half_pos (r.length + 2)
    have h2 := half_lt (n := r.length + 2) (by omega)
    simp
    omega
theorem root_nil : root [] = sumN [] := by rw [root]
theorem root_one (l : List UInt8) : root [l] = sumN (0 :: l) := by rw [root]
theorem root_many (ls : List (List UInt8)) (h : 2 ≤ ls.length) : root ls = sumN (1 :: (be 4 (root (ls.take (half ls.length))) ++ be 4 (root (ls.drop (half ls.length))))) := by
  match ls, h with
  | a :: b :: r, _ => rw [root]; rfl
theorem root_lt (ls : List (List UInt8)) : root ls < 4294967291 := by
  match ls with
  | [] => rw [root_nil]; exact sumN_lt _
  | [l] => rw [root_one]; exact sumN_lt _
  | a :: b :: r => rw [root_many _ (by simp)]; exact sumN_lt _

/-- The way from a leaf to the root, the lowest first. -/
def path (ls : List (List UInt8)) (at_ : Nat) : List Nat :=
  match ls with
  | [] => []
  | [_] => []
  | a :: b :: r =>
    if at_ < half (r.length + 2) then path ((a :: b :: r).take (half (r.length + 2))) at_ ++ [root ((a :: b :: r).drop (half (r.length + 2)))]
    else path ((a :: b :: r).drop (half (r.length + 2))) (at_ - half (r.length + 2)) ++ [root ((a :: b :: r).take (half (r.length + 2)))]
termination_by ls.length
decreasing_by
  all_goals
    have h1 := half_pos (r.length + 2)
    have h2 := half_lt (n := r.length + 2) (by omega)
    simp
    omega
theorem path_one (l : List UInt8) (i : Nat) : path [l] i = [] := by rw [path]
theorem path_many (ls : List (List UInt8)) (i : Nat) (h : 2 ≤ ls.length) : path ls i =
    if i < half ls.length then path (ls.take (half ls.length)) i ++ [root (ls.drop (half ls.length))]
    else path (ls.drop (half ls.length)) (i - half ls.length) ++ [root (ls.take (half ls.length))] := by
  match ls, h with
  | a :: b :: r, _ => rw [path]; rfl

/-- How many roots a way has. -/
def depth (at_ many : Nat) : Nat :=
  if h : many ≤ 1 then 0 else if at_ < half many then depth at_ (half many) + 1 else depth (at_ - half many) (many - half many) + 1
termination_by many
decreasing_by
  · exact half_lt (by omega)
  · have := half_pos many; omega
theorem depth_one (i m : Nat) (h : m ≤ 1) : depth i m = 0 := by rw [depth]; simp [h]
theorem depth_lo (i m : Nat) (h : 2 ≤ m) (hi : i < half m) : depth i m = depth i (half m) + 1 := by rw [depth]; simp [show ¬ m ≤ 1 by omega, hi]
theorem depth_hi (i m : Nat) (h : 2 ≤ m) (hi : ¬ i < half m) : depth i m = depth (i - half m) (m - half m) + 1 := by rw [depth]; simp [show ¬ m ≤ 1 by omega, hi]

theorem path_length (ls : List (List UInt8)) (i : Nat) (h : i < ls.length) : (path ls i).length = depth i ls.length := by
  by_cases h1 : ls.length ≤ 1
  · match ls, h1 with
    | [], _ => simp at h
    | [l], _ => rw [path_one, depth_one _ _ (by simp)]; rfl
  · have hl := half_lt (n := ls.length) (by omega)
    have hp := half_pos ls.length
    rw [path_many _ _ (by omega)]
    split
    · rename_i hi
      rw [List.length_append, path_length (ls.take (half ls.length)) i (by simp; omega), depth_lo _ _ (by omega) hi]
      simp [Nat.min_eq_left (Nat.le_of_lt hl)]
    · rename_i hi
      rw [List.length_append, path_length (ls.drop (half ls.length)) (i - half ls.length) (by simp; omega), depth_hi _ _ (by omega) hi]
      simp
termination_by ls.length
decreasing_by
  all_goals (simp; omega)

/-- The root to which a way leads. The way's last hash is the highest. -/
def climb (leaf : List UInt8) (at_ many : Nat) (p : List Nat) : Nat :=
  if h : many ≤ 1 then sumN (0 :: leaf)
  else if at_ < half many then sumN (1 :: (be 4 (climb leaf at_ (half many) p.dropLast) ++ be 4 (p.getLastD 0)))
  else sumN (1 :: (be 4 (p.getLastD 0) ++ be 4 (climb leaf (at_ - half many) (many - half many) p.dropLast)))
termination_by many
decreasing_by
  · exact half_lt (by omega)
  · have := half_pos many; omega
theorem climb_one (leaf : List UInt8) (i m : Nat) (p : List Nat) (h : m ≤ 1) : climb leaf i m p = sumN (0 :: leaf) := by rw [climb]; simp [h]
theorem climb_lo (leaf : List UInt8) (i m : Nat) (p : List Nat) (h : 2 ≤ m) (hi : i < half m) : climb leaf i m p = sumN (1 :: (be 4 (climb leaf i (half m) p.dropLast) ++ be 4 (p.getLastD 0))) := by
  rw [climb]; simp [show ¬ m ≤ 1 by omega, hi]
theorem climb_hi (leaf : List UInt8) (i m : Nat) (p : List Nat) (h : 2 ≤ m) (hi : ¬ i < half m) : climb leaf i m p = sumN (1 :: (be 4 (p.getLastD 0) ++ be 4 (climb leaf (i - half m) (m - half m) p.dropLast))) := by
  rw [climb]; simp [show ¬ m ≤ 1 by omega, hi]
theorem climb_lt (leaf : List UInt8) (i m : Nat) (p : List Nat) : climb leaf i m p < 4294967291 := by
  by_cases h : m ≤ 1
  · rw [climb_one _ _ _ _ h]; exact sumN_lt _
  · by_cases hi : i < half m
    · rw [climb_lo _ _ _ _ (by omega) hi]; exact sumN_lt _
    · rw [climb_hi _ _ _ _ (by omega) hi]; exact sumN_lt _

/-- From each leaf its path leads to the root. -/
theorem climb_path (ls : List (List UInt8)) (i n : Nat) (leaf : List UInt8) (hn : n = ls.length) (h : ls[i]? = some leaf) : climb leaf i n (path ls i) = root ls := by
  have hlt : i < ls.length := by
    rcases Nat.lt_or_ge i ls.length with h' | h'
    · exact h'
    · rw [List.getElem?_eq_none h'] at h; cases h
  by_cases h1 : ls.length ≤ 1
  · match ls, h1 with
    | [], _ => simp at hlt
    | [l], _ =>
      rw [climb_one _ _ _ _ (by simp [hn]), root_one]
      obtain rfl : i = 0 := by simp at hlt; omega
      simp at h
      rw [h]
  · have hl := half_lt (n := ls.length) (by omega)
    have hp := half_pos ls.length
    subst hn
    rw [path_many _ _ (by omega), root_many ls (by omega)]
    by_cases hi : i < half ls.length
    · rw [if_pos hi, climb_lo _ _ _ _ (by omega) hi]
      have ih := climb_path (ls.take (half ls.length)) i (half ls.length) leaf (by simp; omega) (by rw [List.getElem?_take, if_pos hi, h])
      rw [List.dropLast_concat, ih]
      simp
    · rw [if_neg hi, climb_hi _ _ _ _ (by omega) hi]
      have ih := climb_path (ls.drop (half ls.length)) (i - half ls.length) (ls.length - half ls.length) leaf (by simp) (by rw [List.getElem?_drop, show half ls.length + (i - half ls.length) = i by omega, h])
      rw [List.dropLast_concat, ih]
      simp
termination_by ls.length
decreasing_by
  all_goals (simp; omega)

/-- Two texts with one sum as leaves lead to one root. -/
theorem climb_same (a b : List UInt8) (h : sumN (0 :: a) = sumN (0 :: b)) (i m : Nat) (p : List Nat) : climb a i m p = climb b i m p := by
  by_cases h1 : m ≤ 1
  · rw [climb_one _ _ _ _ h1, climb_one _ _ _ _ h1, h]
  · by_cases hi : i < half m
    · rw [climb_lo _ _ _ _ (by omega) hi, climb_lo _ _ _ _ (by omega) hi, climb_same a b h i (half m) p.dropLast]
    · rw [climb_hi _ _ _ _ (by omega) hi, climb_hi _ _ _ _ (by omega) hi, climb_same a b h (i - half m) (m - half m) p.dropLast]
termination_by m
decreasing_by
  · exact half_lt (by omega)
  · have := half_pos m; omega
/-- Hashes laid one behind the other. -/
def ptext (ps : List Nat) : List UInt8 := ps.flatMap (be 4)
theorem ptext_append (a b : List Nat) : ptext (a ++ b) = ptext a ++ ptext b := by simp [ptext]
theorem ptext_one (n : Nat) : ptext [n] = be 4 n := by simp [ptext]
theorem ptext_length (ps : List Nat) : (ptext ps).length = 4 * ps.length := by
  induction ps with
  | nil => rfl
  | cons a r ih => rw [show a :: r = [a] ++ r from rfl, ptext_append, List.length_append, ih, ptext_one, be_length, List.length_append]; simp; omega
theorem depth_lt (i m : Nat) (h : i < m) : depth i m < m := by
  by_cases h1 : m ≤ 1
  · rw [depth_one _ _ h1]; omega
  · have hl := half_lt (n := m) (by omega)
    have hp := half_pos m
    by_cases hi : i < half m
    · rw [depth_lo _ _ (by omega) hi]
      have := depth_lt i (half m) hi
      omega
    · rw [depth_hi _ _ (by omega) hi]
      have := depth_lt (i - half m) (m - half m) (by omega)
      omega
termination_by m
theorem path_len (ls : List (List UInt8)) (i : Nat) (h : i < ls.length) : (path ls i).length < ls.length := by
  rw [path_length ls i h]; exact depth_lt _ _ h
theorem path_lt (ls : List (List UInt8)) (i : Nat) : ∀ x ∈ path ls i, x < 4294967291 := by
  by_cases h1 : ls.length ≤ 1
  · match ls, h1 with
    | [], _ => simp [path]
    | [l], _ => simp [path_one]
  · have hl := half_lt (n := ls.length) (by omega)
    have hp := half_pos ls.length
    rw [path_many _ _ (by omega)]
    intro x hx
    split at hx
    · rcases List.mem_append.1 hx with hx | hx
      · exact path_lt _ _ x hx
      · simp at hx; subst hx; exact root_lt _
    · rcases List.mem_append.1 hx with hx | hx
      · exact path_lt _ _ x hx
      · simp at hx; subst hx; exact root_lt _
termination_by ls.length
decreasing_by
  all_goals (simp; omega)
/-- What bytes tell, the highest first. -/
def num (l : List UInt8) : Nat := l.foldl (fun v c => 256 * v + c.toNat) 0
theorem num_four (a b c d : UInt8) : num [a, b, c, d] = ((a.toNat * 256 + b.toNat) * 256 + c.toNat) * 256 + d.toNat := by simp [num]; omega
theorem be_num4 (a b c d : UInt8) : be 4 (num [a, b, c, d]) = [a, b, c, d] := by
  have ha := a.toNat_lt
  have hb := b.toNat_lt
  have hc := c.toNat_lt
  have hd := d.toNat_lt
  rw [num_four, show ∀ n, be 4 n = hashText n from fun _ => rfl, hashText_eq]
  have e : ∀ (x : UInt8) (n : Nat), n % 256 = x.toNat → UInt8.ofNat n = x := by
    intro x n h
    apply UInt8.toNat_inj.1
    simpa using h
  rw [e a _ (by omega), e b _ (by omega), e c _ (by omega), e d _ (by omega)]
/-- The hash that is made of a text: its first bytes, noughts behind. -/
def hashOf (l : List UInt8) : Nat := num ((l ++ [0, 0, 0, 0]).take 4)
theorem take4 (l : List UInt8) : ∃ a b c d, (l ++ [0, 0, 0, 0]).take 4 = [a, b, c, d] := by
  match l with
  | [] => exact ⟨_, _, _, _, rfl⟩
  | [_] => exact ⟨_, _, _, _, rfl⟩
  | [_, _] => exact ⟨_, _, _, _, rfl⟩
  | [_, _, _] => exact ⟨_, _, _, _, rfl⟩
  | a :: b :: c :: d :: r => exact ⟨a, b, c, d, rfl⟩
theorem be_hashOf (l : List UInt8) : be 4 (hashOf l) = (l ++ [0, 0, 0, 0]).take 4 := by
  obtain ⟨a, b, c, d, h⟩ := take4 l
  rw [hashOf, h, be_num4]
theorem hashOf_lt (l : List UInt8) : hashOf l < 4294967296 := by
  obtain ⟨a, b, c, d, h⟩ := take4 l
  have ha := a.toNat_lt
  have hb := b.toNat_lt
  have hc := c.toNat_lt
  have hd := d.toNat_lt
  rw [hashOf, h, num_four]
  omega
/-- The numbers of a text's groups of four bytes. -/
def groups (l : List UInt8) : List Nat :=
  match l with
  | a :: b :: c :: d :: r => num [a, b, c, d] :: groups r
  | _ => []
theorem groups_short (l : List UInt8) (h : l.length < 4) : groups l = [] := by
  match l, h with
  | [], _ => simp [groups]
  | [_], _ => simp [groups]
  | [_, _], _ => simp [groups]
  | [_, _, _], _ => simp [groups]
theorem groups_long (l : List UInt8) (h : 4 ≤ l.length) : groups l = hashOf l :: groups (l.drop 4) := by
  match l, h with
  | a :: b :: c :: d :: r, _ => rfl
theorem groups_length (l : List UInt8) : (groups l).length = l.length / 4 := by
  match l with
  | [] => simp [groups, ptext]
  | [_] => simp [groups, ptext]
  | [_, _] => simp [groups, ptext]
  | [_, _, _] => simp [groups, ptext]
  | a :: b :: c :: d :: r =>
    rw [groups_long _ (by simp), List.length_cons, groups_length]
    simp
    omega
theorem groups_lt (l : List UInt8) : ∀ x ∈ groups l, x < 4294967296 := by
  match l with
  | [] => simp [groups]
  | [_] => simp [groups]
  | [_, _] => simp [groups]
  | [_, _, _] => simp [groups]
  | a :: b :: c :: d :: r =>
    rw [groups_long _ (by simp)]
    intro x hx
    rcases List.mem_cons.1 hx with h | h
    · rw [h]; exact hashOf_lt _
    · exact groups_lt _ x h
theorem groups_text (l : List UInt8) : ptext (groups l) = l.take (l.length / 4 * 4) := by
  match l with
  | [] => simp [groups, ptext]
  | [_] => simp [groups, ptext]
  | [_, _] => simp [groups, ptext]
  | [_, _, _] => simp [groups, ptext]
  | a :: b :: c :: d :: r =>
    have := groups_text r
    rw [groups_long _ (by simp), show ∀ (x : Nat) (y : List Nat), x :: y = [x] ++ y from fun _ _ => rfl, ptext_append, ptext_one, be_hashOf]
    rw [show List.drop 4 (a :: b :: c :: d :: r) = r from rfl, this]
    rw [show (a :: b :: c :: d :: r).length / 4 * 4 = r.length / 4 * 4 + 4 by simp; omega]
    rfl
end Pl
end Go.Proofs.YtljmklohgpaopaaDoor

namespace Go.Proofs.YtljmklohgpaopaaDoor
open Go.RowKit

theorem BytesAt.src {w : World} {A : Option Addr} {l : List UInt8} (h : BytesAt w A l) : Src w A (bv l) := by
  rcases h with rfl | ⟨b, off, rfl, h⟩
  · exact .inl rfl
  · refine .inr ⟨b, off, rfl, fun j u hu => ?_⟩
    have hj : j < l.length := by
      rcases Nat.lt_or_ge j l.length with h' | h'
      · exact h'
      · rw [List.getElem?_eq_none (by simpa using h')] at hu; cases hu
    rw [getb l j hj] at hu
    rw [← hu]
    exact h j hj
theorem Src.bytes {w : World} {A : Option Addr} {l : List UInt8} (h : Src w A (bv l)) : BytesAt w A l := by
  rcases h with h | ⟨b, off, rfl, h⟩
  · left
    have := congrArg List.length h
    simp at this
    exact this
  · exact .inr ⟨b, off, rfl, fun i hi => h i _ (getb l i hi)⟩
theorem BytesAt.keep {w w' : World} {A : Option Addr} {l : List UInt8} (h : BytesAt w A l) (hb : Below w.heap.size w w') : BytesAt w' A l := (h.src.below hb).bytes

theorem own_new {w : World} (e : TypeId) (x : Value) : (w.alloc (.cells #[x] e)).ownsRow w.heap.size e 1 (.slice (some ⟨w.heap.size, 0, none⟩) 1 1) 1 [x] :=
  ⟨rfl, .inr ⟨w.heap.size, 1, #[x], rfl, Nat.le_refl _, heap_alloc_new w _, Nat.le_refl _, by simp [maxLen], rfl, rfl⟩⟩

/-- An append to a slice of bytes that the call owns: Go's own bound. -/
theorem byte_room {n m : Nat} (h : n + m ≤ 140737488355328) : ∀ old, old < n + m → Builtin.nextslicecap (n + m) old * 1 ≤ 281474976710656 := by
  intro old ho
  exact growslice_fits ho (by omega)

set_option maxHeartbeats 400000 in
theorem leaf_any (A : Option Addr) (cap : Nat) (l : List UInt8) (w : World) (hb : BytesAt w A l) (hm : l.length ≤ 140737488351232) :
    Calls Tryd.prog 113 #[.slice A l.length cap] w fun e w' => ∃ A' cap', e = .returned (.slice A' (l.length + 1) cap') ∧ BytesAt w' A' (0 :: l) ∧ Below w.heap.size w w' := by
  obtain ⟨i0, hi, hz0, hz1, hz2⟩ := info_parts Tryd.infoByte
  have hs := (hb.keep (w' := w.alloc (.cells #[.int .u8 0] 5)) ((Below.refl _ _).alloc (Nat.le_refl _) _)).src
  go_enter Tryd.func113, Tryd.ntmps113
  go_wp2_with (at_builtin; refine wpList_append_src _ rfl _ _ 23 rfl w.heap.size 5 i0 (.int .u8 0) 1 1 Tryd.underlying23 hi hz0 hz1 hz2 rfl (by decide) _ 1 [.int .u8 0] rfl (own_new _ _) A l.length cap (bv l) rfl (by simp) hs (bv_one _) (by simp only [maxLen]; omega) (byte_room (by omega)) (by simp) ?_; intro v' w1 hown hgrow hat)
  obtain ⟨A1, cap1, rfl, hcap, hsrc, _⟩ := own_src hown
  go_wp2
  go_ret
  refine ⟨A1, cap1, by simp [Nat.add_comm], Src.bytes (by simpa [bv] using hsrc), ((Below.refl _ _).alloc (Nat.le_refl _) _).grown hgrow (by simp) (fun k hk => ?_)⟩
  cases hk
  exact Nat.le_refl _

set_option maxHeartbeats 400000 in
theorem half_any (n : Nat) (w : World) (h1 : 1 ≤ n) (h2 : n ≤ 4611686018427387903) :
    Calls Tryd.prog 112 #[.int .i64 (n : Int)] w fun e w' => e = .returned (.int .i64 (Pl.half n : Nat)) ∧ w = w' := by
  go_enter Tryd.func112, Tryd.ntmps112
  go_wp2
  go_loop [3] (fun i => ∃ j k : Nat, Hid (2 ^ j = k) ∧ i = .int .i64 (k : Int) ∧ 1 ≤ k ∧ k ≤ n ∧ (j = 0 ∨ k < n)) (fun i => n - (intOf i).toNat)
  case atStart => exact ⟨0, 1, rfl, rfl, by omega, h1, .inl rfl⟩
  case round =>
    obtain ⟨j, k, HK, rfl, hk1, hkn, hj⟩ := hrel
    by_cases hlt : 2 * k < n
    · go_wp2
      go_round
      case rel => exact ⟨j + 1, 2 * k, by rw [Hid, Nat.pow_succ, HK.out, Nat.mul_comm], by go_num, by omega, by omega, .inr hlt⟩
      case measure => simp [intOf]; omega
    · have hh : Hid (k = Pl.half n) := by
        have hx := HK.out
        rw [← hx] at hlt hkn hj ⊢
        exact Pl.half_of (by rcases hj with h | h; exact .inl h; exact .inr h) (by omega) h1
      go_wp2


      go_ret
      exact ⟨by rw [← hh.out]; rfl, rfl⟩

set_option maxHeartbeats 400000 in
theorem refHalf_any (n : Nat) (w : World) (h1 : 1 ≤ n) (h2 : n ≤ 4611686018427387903) :
    Calls Tryd.prog 57 #[.int .i64 (n : Int)] w fun e w' => e = .returned (.int .i64 (Pl.half n : Nat)) ∧ w = w' := by
  go_enter Tryd.func57, Tryd.ntmps57
  go_wp2
  go_loop [3] (fun i => ∃ j k : Nat, Hid (2 ^ j = k) ∧ i = .int .i64 (k : Int) ∧ 1 ≤ k ∧ k ≤ n ∧ (j = 0 ∨ k < n)) (fun i => n - (intOf i).toNat)
  case atStart => exact ⟨0, 1, rfl, rfl, by omega, h1, .inl rfl⟩
  case round =>
    obtain ⟨j, k, HK, rfl, hk1, hkn, hj⟩ := hrel
    by_cases hlt : 2 * k < n
    · go_wp2
      go_round
      case rel => exact ⟨j + 1, 2 * k, by rw [Hid, Nat.pow_succ, HK.out, Nat.mul_comm], by go_num, by omega, by omega, .inr hlt⟩
      case measure => simp [intOf]; omega
    · have hh : Hid (k = Pl.half n) := by
        have hx := HK.out
        rw [← hx] at hlt hkn hj ⊢
        exact Pl.half_of (by rcases hj with h | h; exact .inl h; exact .inr h) (by omega) h1
      go_wp2
      go_ret
      exact ⟨by rw [← hh.out]; rfl, rfl⟩
end Go.Proofs.YtljmklohgpaopaaDoor

namespace Go.Proofs.YtljmklohgpaopaaDoor
open Go.RowKit

/-- The four cells of a hash. -/
def hc (n : Nat) : List Value := [.int .u8 ((n : Int) / 16777216), .int .u8 ((n : Int) / 65536 % 256), .int .u8 ((n : Int) / 256 % 256), .int .u8 ((n : Int) % 256)]
theorem hc_bytes (n : Nat) (hn : n < 4294967296) : bv (Pl.be 4 n) = hc n := by
  have := Pl.hashText_eq n
  unfold Pl.hashText at this
  rw [this]
  simp [bv, hc]
  omega
theorem hc_one (n : Nat) : ∀ v ∈ hc n, v.oneCell' = true := by
  intro v hv
  simp [hc] at hv
  rcases hv with rfl | rfl | rfl | rfl <;> rfl
theorem hashVal_hc (n : Nat) : hashVal n = .agg (hc n).toArray := rfl

theorem own_newAt {w : World} (base n : Nat) (e : TypeId) (x : Value) (hn : n = w.heap.size) (hb : base ≤ n) : (w.alloc (.cells #[x] e)).ownsRow base e 1 (.slice (some ⟨n, 0, none⟩) 1 1) 1 [x] := by
  subst hn
  exact ⟨rfl, .inr ⟨w.heap.size, 1, #[x], rfl, hb, heap_alloc_new w _, Nat.le_refl _, by simp [maxLen], rfl, rfl⟩⟩

set_option maxHeartbeats 1000000 in
theorem node_any (a b : Nat) (w : World) (ha : a < 4294967296) (hb : b < 4294967296) :
    Calls Tryd.prog 114 #[hashVal a, hashVal b] w fun e w' => ∃ A' cap', e = .returned (.slice A' 9 cap') ∧ BytesAt w' A' (1 :: (Pl.be 4 a ++ Pl.be 4 b)) ∧ Below w.heap.size w w' := by
  obtain ⟨i0, hi, hz0, hz1, hz2⟩ := info_parts Tryd.infoByte
  have hba := hc_bytes a ha
  have hbb := hc_bytes b hb
  have HA := Lib.hid hba
  have HB := Lib.hid hbb
  clear hba hbb
  have B1 : Blk ((w.alloc (.cells (hc a).toArray 73)).alloc (.cells (hc b).toArray 73)) w.heap.size 73 (hc a) := (Blk.new _ _ _).alloc _
  have B2 : Blk ((w.alloc (.cells (hc a).toArray 73)).alloc (.cells (hc b).toArray 73)) (w.heap.size + 1) 73 (hc b) := Blk.newAt _ _ _ _ (by simp)
  have S1 := Src.of_blk (B1.alloc (.cells #[.int .u8 1] 5))
  have B3 := B2.alloc (.cells #[.int .u8 1] 5)
  have own1 := own_newAt (w := (w.alloc (.cells (hc a).toArray 73)).alloc (.cells (hc b).toArray 73)) w.heap.size (w.heap.size + 1 + 1) 5 (.int .u8 1) (by simp) (by omega)
  have S1' := Lib.hid S1
  have B3' := Lib.hid B3
  have own1' := Lib.hid own1
  clear B1 B2 S1 B3 own1
  go_enter Tryd.func114, Tryd.ntmps114
  go_wp2_with (first
    | (at_builtin
       refine wpList_append_src _ rfl (.tmp 6) (.tmp 7) 23 rfl w.heap.size 5 i0 (.int .u8 0) 1 1 Tryd.underlying23 hi hz0 hz1 hz2 rfl (by decide) (.slice (some ⟨w.heap.size + 1 + 1, 0, none⟩) 1 1) 1 [.int .u8 1] rfl own1'.out (some ⟨w.heap.size, 0, none⟩) 4 4 (hc a) rfl rfl S1'.out (hc_one a) (by simp only [maxLen]; omega) (byte_room (by omega)) (by simp; omega) ?_
       intro v1 w1 hown1 hg1 hat1
       have S2 := Lib.hid (Src.of_blk (B3'.out.grown hg1 (by simp [Value.ownBlock])))
       have hlt1 := hg1.size)
    | (at_builtin
       refine wpList_append_src _ rfl (.tmp 9) (.tmp 10) 23 rfl w.heap.size 5 i0 (.int .u8 0) 1 1 Tryd.underlying23 hi hz0 hz1 hz2 rfl (by decide) v1 5 _ rfl hown1 (some ⟨w.heap.size + 1, 0, none⟩) 4 4 (hc b) rfl rfl S2.out (hc_one b) (by simp only [maxLen]; omega) (byte_room (by omega)) (by simp at hlt1; omega) ?_
       intro v2 w2 hown2 hg2 hat2))
  obtain ⟨A1, cap1, rfl, hcap, hsrc, _⟩ := own_src hown2
  go_wp2
  go_ret
  refine ⟨A1, cap1, by simp, Src.bytes ?_, ?_⟩
  · have : bv (1 :: (Pl.be 4 a ++ Pl.be 4 b)) = [.int .u8 1] ++ hc a ++ hc b := by
      rw [← HA.out, ← HB.out]
      simp [bv]
    rw [this]
    exact hsrc
  · have h1 : Below w.heap.size w w1 := ((((Below.refl _ _).alloc (Nat.le_refl _) _).alloc (by simp) _).alloc (by simp; omega) _).grown hg1 (by simp; omega) (fun k hk => by cases hk; simp; omega)
    refine h1.grown hg2 h1.size (fun k hk => ?_)
    rcases hat1 with e | e
    · rw [e] at hk; cases hk; simp; omega
    · rw [e] at hk; cases hk; simp; omega
end Go.Proofs.YtljmklohgpaopaaDoor

namespace Go.Proofs.YtljmklohgpaopaaDoor
open Go.RowKit

/-- The address leads to a row of slices that read as these texts. -/
def BB (w : World) (A : Option Addr) (ls : List (List UInt8)) : Prop :=
  ls = [] ∨ ∃ b off, A = some ⟨b, off, none⟩ ∧ ∀ (i : Nat) l, ls[i]? = some l → l.length ≤ 140737488351232 ∧ ∃ A' cap, l.length ≤ cap ∧ w.cell? ⟨b, off + i, none⟩ = some (.slice A' l.length cap) ∧ BytesAt w A' l
theorem BB.keep {w w' : World} {A : Option Addr} {ls : List (List UInt8)} (h : BB w A ls) (hb : Below w.heap.size w w') : BB w' A ls := by
  rcases h with h | ⟨b, off, rfl, h⟩
  · exact .inl h
  · refine .inr ⟨b, off, rfl, fun i l hl => ?_⟩
    obtain ⟨h1, A', cap, h2, h3, h4⟩ := h i l hl
    exact ⟨h1, A', cap, h2, below_keeps hb _ _ h3, h4.keep hb⟩
theorem BB.take {w : World} {A : Option Addr} {ls : List (List UInt8)} (h : BB w A ls) (k : Nat) : BB w A (ls.take k) := by
  rcases h with rfl | ⟨b, off, rfl, h⟩
  · exact .inl (by simp)
  · refine .inr ⟨b, off, rfl, fun i l hl => ?_⟩
    rw [List.getElem?_take] at hl
    split at hl
    · exact h i l hl
    · cases hl
theorem BB.drop {w : World} {b off : Nat} {ls : List (List UInt8)} (h : BB w (some ⟨b, off, none⟩) ls) (k : Nat) : BB w (some ⟨b, off + k, none⟩) (ls.drop k) := by
  rcases h with rfl | ⟨b', off', e, h⟩
  · exact .inl (by simp)
  · cases e
    refine .inr ⟨_, _, rfl, fun i l hl => ?_⟩
    rw [List.getElem?_drop] at hl
    rw [Nat.add_assoc]
    exact h _ l hl
theorem BB.addr {w : World} {A : Option Addr} {ls : List (List UInt8)} (h : BB w A ls) (hn : 0 < ls.length) : ∃ b off, A = some ⟨b, off, none⟩ := by
  rcases h with rfl | ⟨b, off, rfl, _⟩
  · simp at hn
  · exact ⟨b, off, rfl⟩
theorem BB.at_ {w : World} {b off : Nat} {ls : List (List UInt8)} (h : BB w (some ⟨b, off, none⟩) ls) (i : Nat) (l : List UInt8) (hl : ls[i]? = some l) :
    l.length ≤ 140737488351232 ∧ ∃ A' cap, l.length ≤ cap ∧ w.cell? ⟨b, off + i, none⟩ = some (.slice A' l.length cap) ∧ BytesAt w A' l := by
  rcases h with rfl | ⟨b', off', e, h⟩
  · simp at hl
  · cases e
    exact h i l hl

theorem undrew {B : Nat} {a w : World} (h : Below B a.drew w) : Below B a w := ⟨h.os, h.tape, h.output, h.size, h.block⟩
theorem nil_bytes (w : World) : BytesAt w none [] := .inl rfl

theorem Blk.set4 {w : World} {g : Nat} {t : TypeId} {a0 a1 a2 a3 : Value} (h : Blk w g t [a0, a1, a2, a3]) (x0 x1 x2 x3 : Value) :
    Blk ((((w.setCell ⟨g, 0, none⟩ x0).setCell ⟨g, 1, none⟩ x1).setCell ⟨g, 2, none⟩ x2).setCell ⟨g, 3, none⟩ x3) g t [x0, x1, x2, x3] :=
  (((h.set_ 0 x0).set_ 1 x1).set_ 2 x2).set_ 3 x3
theorem below_set4 {B : Nat} {a w : World} (h : Below B a w) {g : Nat} (hg : B ≤ g) (x0 x1 x2 x3 : Value) :
    Below B a ((((w.setCell ⟨g, 0, none⟩ x0).setCell ⟨g, 1, none⟩ x1).setCell ⟨g, 2, none⟩ x2).setCell ⟨g, 3, none⟩ x3) :=
  (((h.setCell hg x0).setCell hg x1).setCell hg x2).setCell hg x3
theorem loadVar_hash (w : World) (g n : Nat) (h : Blk w g 73 (hc n)) : (loadVar 73 ⟨g, 0, none⟩).run Tryd.prog w = .ok (hashVal n) w := by
  have c0 := h.cell 0
  have c1 := h.cell 1
  have c2 := h.cell 2
  have c3 := h.cell 3
  simp only [hc, List.getElem?_cons_succ, List.getElem?_cons_zero] at c0 c1 c2 c3
  simp [go_sem, c0, c1, c2, c3, hashVal]

theorem results_hash {fn : Func} {t : Tmp} {tmps : Array Value} {w : World} {g n : Nat} (h : fn.results = #[.cell t 73]) (ht : tmps.getD t undef = .pointer (some ⟨g, 0, none⟩)) (hB : Blk w g 73 (hc n)) :
    (results fn tmps).run Tryd.prog w = .ok (hashVal n) w := by
  have hl := loadVar_hash w g n hB
  simp only [Array.getD_eq_getD_getElem?] at ht
  simp [results, h, ht, hl, asAddr]

theorem facts4 {w : World} {g : Nat} {t : TypeId} {a0 a1 a2 a3 : Value} (h : Blk w g t [a0, a1, a2, a3]) :
    w.cell? ⟨g, 0, none⟩ = some a0 ∧ w.cell? ⟨g, 1, none⟩ = some a1 ∧ w.cell? ⟨g, 2, none⟩ = some a2 ∧ w.cell? ⟨g, 3, none⟩ = some a3 ∧
    w.frozen? ⟨g, 0, none⟩ = false ∧ w.frozen? ⟨g, 1, none⟩ = false ∧ w.frozen? ⟨g, 2, none⟩ = false ∧ w.frozen? ⟨g, 3, none⟩ = false :=
  ⟨h.cell 0, h.cell 1, h.cell 2, h.cell 3, h.frozen 0, h.frozen 1, h.frozen 2, h.frozen 3⟩
theorem Blk.hash0 (w : World) : Blk (w.alloc (.cells #[.int .u8 0, .int .u8 0, .int .u8 0, .int .u8 0] 73)) w.heap.size 73 [.int .u8 0, .int .u8 0, .int .u8 0, .int .u8 0] := Blk.new w _ _

theorem root_join (w w1 w2 w3 w4 : World) (o : Obj) (h1 : Below (w.alloc o).heap.size (w.alloc o) w1) (h2 : Below w1.heap.size w1 w2) (h3 : Below w2.heap.size w2 w3) (h4 : Below w3.heap.size w3 w4) :
    Below (w.alloc o).heap.size (w.alloc o) w4 ∧ Below w.heap.size w w4 := by
  have h12 := h1.trans (h2.mono h1.size)
  have h13 := h12.trans (h3.mono h12.size)
  have h14 := h13.trans (h4.mono h13.size)
  exact ⟨h14, ((Below.refl _ _).alloc (Nat.le_refl _) _).trans (h14.mono (by simp))⟩

theorem Tryd.sizeByte2 : (Tryd.prog.info? 5).map (·.size) = some 1 := by kernel_rfl

theorem hc_hashOf (l : List UInt8) : bv (l.take (Nat.min l.length 4)) ++ List.drop (0 + Nat.min l.length 4) [.int .u8 0, .int .u8 0, .int .u8 0, .int .u8 0] = hc (Pl.hashOf l) := by
  rw [← hc_bytes _ (Pl.hashOf_lt l), Pl.be_hashOf]
  match l with
  | [] => rfl
  | [_] => rfl
  | [_, _] => rfl
  | [_, _, _] => rfl
  | a :: b :: c :: d :: r =>
    have h4 : Nat.min (a :: b :: c :: d :: r).length 4 = 4 := by simp
    rw [h4]
    rfl

end Go.Proofs.YtljmklohgpaopaaDoor

namespace Go.Proofs.YtljmklohgpaopaaDoor
open Go.RowKit

def sv (ss : List ByteArray) : List Value := ss.map Value.string
def bl (ss : List ByteArray) : List (List UInt8) := ss.map fun s => s.data.toList
def hstr (n : Nat) : ByteArray := ⟨(Pl.hashText n).toArray⟩
theorem hstr_list (n : Nat) : (hstr n).data.toList = Pl.be 4 n := rfl
theorem hstr_size (n : Nat) : (hstr n).size = 4 := by
  show (Pl.hashText n).toArray.size = 4
  simp [Pl.hashText, Pl.be_length]
theorem sv_len (ss : List ByteArray) : (sv ss).length = ss.length := by simp [sv]
theorem bl_len (ss : List ByteArray) : (bl ss).length = ss.length := by simp [bl]
theorem bl_take (ss : List ByteArray) (k : Nat) : bl (ss.take k) = (bl ss).take k := by simp [bl]
theorem bl_drop (ss : List ByteArray) (k : Nat) : bl (ss.drop k) = (bl ss).drop k := by simp [bl]
theorem sv_take (ss : List ByteArray) (k : Nat) : sv (ss.take k) = (sv ss).take k := by simp [sv]
theorem sv_drop (ss : List ByteArray) (k : Nat) : sv (ss.drop k) = (sv ss).drop k := by simp [sv]
theorem Src.addr {w : World} {A : Option Addr} {cs : List Value} (h : Src w A cs) (hn : 0 < cs.length) : ∃ b off, A = some ⟨b, off, none⟩ := by
  rcases h with rfl | ⟨b, off, rfl, _⟩
  · simp at hn
  · exact ⟨b, off, rfl⟩
theorem Src.off {w : World} {b off : Nat} {cs : List Value} (h : Src w (some ⟨b, off, none⟩) cs) (k : Nat) : Src w (some ⟨b, off + k, none⟩) (cs.drop k) := by
  rcases h with rfl | ⟨b', off', e, h⟩
  · exact .inl (by simp)
  · cases e
    exact .inr ⟨_, _, rfl, fun j u hu => by rw [List.getElem?_drop] at hu; rw [Nat.add_assoc]; exact h _ u hu⟩
theorem Src.cell {w : World} {b off : Nat} {cs : List Value} (h : Src w (some ⟨b, off, none⟩) cs) (j : Nat) (u : Value) (hu : cs[j]? = some u) : w.cell? ⟨b, off + j, none⟩ = some u := by
  obtain ⟨b', off', e, hc⟩ := h.at_ j u hu
  cases e
  exact hc

theorem refSum_of (s : ByteArray) (l : List UInt8) (w : World) (hl : s.data.toList = l) (hm : l.length ≤ 9223372036854775807) :
    Calls Tryd.prog 29 #[.string s] w fun e w' => e = .returned (.string (hstr (Pl.sumN l))) ∧ Below w.heap.size w w' := by
  subst hl
  exact refSum_any s w hm

end Go.Proofs.YtljmklohgpaopaaDoor
