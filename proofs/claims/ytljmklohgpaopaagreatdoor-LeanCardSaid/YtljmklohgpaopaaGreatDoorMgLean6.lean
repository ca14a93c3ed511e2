/- The disk in memory: a predicate, and its laws. The walks of the codec's Reader: Take, Num; octets.Get of bytes. The walks of the codec's Reader: Num; of the chain's hash, hashes. Laws over any program: append onto a row of the call's own, or onto a slice that has no room. The walks of octets.Put, bytes.Equal, chain.Hash, chain.header, the harness's four. The walks of bytes.Equal, chain.Hash, the harness's four, the reference's Extends. The walks of the chain's hashes and entry. The walk of chain.Extends. The reader's calls, told with how the evidence is taken apart. The walks of the reference's Number, cursor, Extends. -/
import Derived.Test.YtljmklohgpaopaaGreatDoorMgLean4
import Derived.Test.YtljmklohgpaopaaGreatDoorMgLean5
import Derived.Test.YtljmklohgpaopaaGreatDoorMgLean2
import Derived.Laws.OwnMore
import Derived.Test.YtljmklohgpaopaaGreatDoorMgLean1
import Derived.Deep.Cut
import Derived.Deep.CutRange
set_option linter.unusedVariables false
set_option linter.unusedSimpArgs false

namespace Go.Proofs.YtljmklohgpaopaaGreatDoor
open Go.RowKit

/-- A sector's cells. -/
def secCells (s : Pl.Sec) : List Value := [.string (tstr s.now), .string (tstr s.safe), .bool s.broken, .bool s.was, .bool s.fresh]
def secsCells (l : List Pl.Sec) : List Value := l.flatMap secCells
theorem secCells_length (s : Pl.Sec) : (secCells s).length = 5 := rfl
theorem secsCells_length (l : List Pl.Sec) : (secsCells l).length = l.length * 5 := by
  induction l with
  | nil => rfl
  | cons a r ih => simp only [secsCells, List.flatMap_cons, List.length_append] at ih ⊢; rw [ih]; simp [secCells]; omega
theorem secsCells_append (a b : List Pl.Sec) : secsCells (a ++ b) = secsCells a ++ secsCells b := by simp [secsCells]
theorem secsCells_cons (a : Pl.Sec) (b : List Pl.Sec) : secsCells (a :: b) = secCells a ++ secsCells b := by simp [secsCells]
theorem secsCells_split (l : List Pl.Sec) (i : Nat) (s : Pl.Sec) (hs : l[i]? = some s) : secsCells l = secsCells (l.take i) ++ (secCells s ++ secsCells (l.drop (i + 1))) := by
  have hi : i < l.length := (List.getElem?_eq_some_iff.1 hs).1
  have he : l[i] = s := (List.getElem?_eq_some_iff.1 hs).2
  conv => lhs; rw [← List.take_append_drop i l, secsCells_append, List.drop_eq_getElem_cons hi, secsCells_cons, he]
theorem secsCells_take_length (l : List Pl.Sec) (i : Nat) (hi : i < l.length) : (secsCells (l.take i)).length = i * 5 := by
  rw [secsCells_length, List.length_take, Nat.min_eq_left (by omega)]
theorem secsCells_get (l : List Pl.Sec) (i j : Nat) (s : Pl.Sec) (hs : l[i]? = some s) (hj : j < 5) : (secsCells l)[i * 5 + j]? = (secCells s)[j]? := by
  have hi : i < l.length := (List.getElem?_eq_some_iff.1 hs).1
  rw [secsCells_split l i s hs, List.getElem?_append_right (by rw [secsCells_take_length l i hi]; omega), secsCells_take_length l i hi, Nat.add_sub_cancel_left, List.getElem?_append_left (by rw [secCells_length]; exact hj)]
theorem fold_set (A C : List Value) (k : Nat) (hA : A.length = k) : ∀ (sets : List (Nat × Value)) (B : List Value), (∀ p ∈ sets, p.1 < B.length) →
    sets.foldl (fun xs p => xs.set (k + p.1) p.2) (A ++ (B ++ C)) = A ++ (sets.foldl (fun xs p => xs.set p.1 p.2) B ++ C)
  | [], _, _ => rfl
  | p :: r, B, h => by
    have h1 := h p (by simp)
    rw [List.foldl_cons, List.foldl_cons, List.set_append_right _ _ (by omega), hA, Nat.add_sub_cancel_left, List.set_append_left _ _ h1]
    exact fold_set A C k hA r (B.set p.1 p.2) (fun q hq => by rw [List.length_set]; exact h q (by simp [hq]))
/-- Some cells of a sector are laid anew. -/
theorem secsCells_sets (l : List Pl.Sec) (i : Nat) (s s' : Pl.Sec) (hs : l[i]? = some s) (sets : List (Nat × Value)) (hlt : ∀ p ∈ sets, p.1 < 5) (h : sets.foldl (fun xs p => xs.set p.1 p.2) (secCells s) = secCells s') :
    sets.foldl (fun xs p => xs.set (i * 5 + p.1) p.2) (secsCells l) = secsCells (l.set i s') := by
  have hi : i < l.length := (List.getElem?_eq_some_iff.1 hs).1
  have h' : (l.set i s')[i]? = some s' := by simp [hi]
  rw [secsCells_split l i s hs, secsCells_split (l.set i s') i s' h', fold_set _ _ _ (secsCells_take_length l i hi) sets _ (fun p hp => by rw [secCells_length]; exact hlt p hp), h]
  congr 2
  · rw [List.take_set_of_le (Nat.le_refl _)]
  · congr 1
    rw [List.drop_set_of_lt (by omega)]

/-- The disk at block g, its row v: these sectors, this life; so many reads. -/
structure DiskAt (w : World) (g : Nat) (v : Value) (d : Pl.Dk) (rd : Int) : Prop where
  most : d.secs.length ≤ 4096
  sized : ∀ s ∈ d.secs, s.now.length = 256 ∧ s.safe.length = 256
  life : -1 ≤ d.life ∧ d.life ≤ 9223372036854775807
  far : v.ownBlock ≠ some g
  own : w.ownsRow 0 104 5 v d.secs.length (secsCells d.secs)
  blk : ∃ wr sy, Blk w g 102 [v, .int .i64 d.life, .int .i64 rd, .int .i64 wr, .int .i64 sy]
/-- The disk's blocks. -/
def dF (g : Nat) (v : Value) (k : Nat) : Prop := k = g ∨ v.ownBlock = some k
theorem DiskAt.only {F : Nat → Prop} {w w' : World} {g : Nat} {v : Value} {d : Pl.Dk} {rd : Int} (h : DiskAt w g v d rd) (ho : Only F w w') (hF : ∀ k, dF g v k → ¬ F k) : DiskAt w' g v d rd := by
  obtain ⟨wr, sy, hb⟩ := h.blk
  exact ⟨h.most, h.sized, h.life, h.far, ho.own h.own (fun k hk => hF k (.inr hk)), wr, sy, ho.blk hb (hF g (.inl rfl))⟩
theorem DiskAt.below {w w' : World} {g : Nat} {v : Value} {d : Pl.Dk} {rd : Int} (h : DiskAt w g v d rd) (hb : Below w.heap.size w w') : DiskAt w' g v d rd := h.only (Only.of_below hb (fun _ => False)) (fun _ _ => id)
theorem DiskAt.lt {w : World} {g : Nat} {v : Value} {d : Pl.Dk} {rd : Int} (h : DiskAt w g v d rd) : ∀ k, dF g v k → k < w.heap.size := by
  obtain ⟨wr, sy, hb⟩ := h.blk
  rintro k (rfl | hk)
  · exact hb.lt
  · exact (h.own.lt k hk).2
theorem facts5 {w : World} {g : Nat} {t : TypeId} {a0 a1 a2 a3 a4 : Value} (h : Blk w g t [a0, a1, a2, a3, a4]) :
    w.cell? ⟨g, 0, none⟩ = some a0 ∧ w.cell? ⟨g, 1, none⟩ = some a1 ∧ w.cell? ⟨g, 2, none⟩ = some a2 ∧ w.cell? ⟨g, 3, none⟩ = some a3 ∧ w.cell? ⟨g, 4, none⟩ = some a4 ∧
    w.frozen? ⟨g, 0, none⟩ = false ∧ w.frozen? ⟨g, 1, none⟩ = false ∧ w.frozen? ⟨g, 2, none⟩ = false ∧ w.frozen? ⟨g, 3, none⟩ = false ∧ w.frozen? ⟨g, 4, none⟩ = false :=
  ⟨h.cell 0, h.cell 1, h.cell 2, h.cell 3, h.cell 4, h.frozen 0, h.frozen 1, h.frozen 2, h.frozen 3, h.frozen 4⟩
theorem own_sec {w : World} {b n cap : Nat} {l : List Pl.Sec} (ho : w.ownsRow 0 104 5 (.slice (some ⟨b, 0, none⟩) n cap) n (secsCells l)) (hn : l.length = n) {i : Nat} {s : Pl.Sec} (hs : l[i]? = some s) :
    w.cell? ⟨b, i * 5, none⟩ = some (.string (tstr s.now)) ∧ w.cell? ⟨b, i * 5 + 1, none⟩ = some (.string (tstr s.safe)) ∧ w.cell? ⟨b, i * 5 + 2, none⟩ = some (.bool s.broken) ∧
      w.cell? ⟨b, i * 5 + 3, none⟩ = some (.bool s.was) ∧ w.cell? ⟨b, i * 5 + 4, none⟩ = some (.bool s.fresh) ∧ (∀ j, w.frozen? ⟨b, j, none⟩ = false) := by
  have hi : i < l.length := (List.getElem?_eq_some_iff.1 hs).1
  have hc : ∀ j, j < 5 → w.cell? ⟨b, i * 5 + j, none⟩ = (secCells s)[j]? := fun j hj => (ho.cellAt (i * 5 + j) (by omega)).trans (secsCells_get _ _ _ _ hs hj)
  exact ⟨hc 0 (by omega), hc 1 (by omega), hc 2 (by omega), hc 3 (by omega), hc 4 (by omega), fun j => ho.frozenAt j⟩
/-- Where a disk has a sector: its row's block, the sector's cells. -/
theorem DiskAt.sec {w : World} {g : Nat} {v : Value} {d : Pl.Dk} {rd : Int} (h : DiskAt w g v d rd) {i : Nat} {s : Pl.Sec} (hs : d.secs[i]? = some s) :
    ∃ b cap, v = .slice (some ⟨b, 0, none⟩) d.secs.length cap ∧ b ≠ g ∧ w.cell? ⟨b, i * 5, none⟩ = some (.string (tstr s.now)) ∧ w.cell? ⟨b, i * 5 + 1, none⟩ = some (.string (tstr s.safe)) ∧ w.cell? ⟨b, i * 5 + 2, none⟩ = some (.bool s.broken) ∧
      w.cell? ⟨b, i * 5 + 3, none⟩ = some (.bool s.was) ∧ w.cell? ⟨b, i * 5 + 4, none⟩ = some (.bool s.fresh) ∧ (∀ j, w.frozen? ⟨b, j, none⟩ = false) := by
  have hi : i < d.secs.length := (List.getElem?_eq_some_iff.1 hs).1
  obtain ⟨b, cap, e0, _, _⟩ := own_addr h.own (by omega)
  have ho := h.own
  have hf := h.far
  rw [e0] at ho hf
  have hc : ∀ j, j < 5 → w.cell? ⟨b, i * 5 + j, none⟩ = (secCells s)[j]? := fun j hj => (ho.cellAt (i * 5 + j) (by omega)).trans (secsCells_get _ _ _ _ hs hj)
  refine ⟨b, cap, e0, fun e => hf (by rw [e]; rfl), hc 0 (by omega), hc 1 (by omega), hc 2 (by omega), hc 3 (by omega), hc 4 (by omega), fun j => ho.frozenAt j⟩
theorem DiskAt.ofHead {w w' : World} {g : Nat} {v : Value} {d : Pl.Dk} {rd : Int} (h : DiskAt w g v d rd) (ho : Only (· = g) w w') (life rd' wr sy : Int) (hl : -1 ≤ life ∧ life ≤ 9223372036854775807) (hb : Blk w' g 102 [v, .int .i64 life, .int .i64 rd', .int .i64 wr, .int .i64 sy]) :
    DiskAt w' g v ⟨d.secs, life⟩ rd' :=
  ⟨h.most, h.sized, hl, h.far, ho.own h.own (fun k hk e => h.far (by rw [hk, e])), wr, sy, hb⟩
theorem own_sets {base b n cap i : Nat} {e : TypeId} : ∀ (sets : List (Nat × Value)) {w : World} {xs : List Value}, w.ownsRow base e 5 (.slice (some ⟨b, 0, none⟩) n cap) n xs →
    (sets.foldl (fun W p => W.setCell ⟨b, i * 5 + p.1, none⟩ p.2) w).ownsRow base e 5 (.slice (some ⟨b, 0, none⟩) n cap) n (sets.foldl (fun xs p => xs.set (i * 5 + p.1) p.2) xs)
  | [], _, _, h => h
  | p :: r, _, _, h => own_sets r (h.stored (i * 5 + p.1) p.2).1
theorem only_sets {b i : Nat} {F : Nat → Prop} (hF : F b) : ∀ (sets : List (Nat × Value)) {a w : World}, Only F a w → Only F a (sets.foldl (fun W p => W.setCell ⟨b, i * 5 + p.1, none⟩ p.2) w)
  | [], _, _, h => h
  | p :: r, _, _, h => only_sets hF r (h.setCell (.inl hF) p.2)
/-- Some cells of a sector are laid anew. -/
theorem DiskAt.sets {w : World} {g b cap : Nat} {d : Pl.Dk} {rd : Int} (h : DiskAt w g (.slice (some ⟨b, 0, none⟩) d.secs.length cap) d rd) {i : Nat} {s : Pl.Sec} (hs : d.secs[i]? = some s) (s' : Pl.Sec) (hz : s'.now.length = 256 ∧ s'.safe.length = 256)
    (sets : List (Nat × Value)) (hlt : ∀ p ∈ sets, p.1 < 5) (he : sets.foldl (fun xs p => xs.set p.1 p.2) (secCells s) = secCells s') :
    DiskAt (sets.foldl (fun W p => W.setCell ⟨b, i * 5 + p.1, none⟩ p.2) w) g (.slice (some ⟨b, 0, none⟩) d.secs.length cap) ⟨d.secs.set i s', d.life⟩ rd ∧
    Only (· = b) w (sets.foldl (fun W p => W.setCell ⟨b, i * 5 + p.1, none⟩ p.2) w) := by
  have ho := only_sets (b := b) (i := i) (F := (· = b)) rfl sets (Only.refl _ w)
  have hbg : g ≠ b := fun e => h.far (by rw [e]; rfl)
  obtain ⟨wr, sy, hb⟩ := h.blk
  have hown := own_sets (i := i) sets h.own
  rw [secsCells_sets d.secs i s s' hs sets hlt he] at hown
  refine ⟨⟨by simpa using h.most, ?_, h.life, h.far, by simpa using hown, wr, sy, ho.blk hb hbg⟩, ho⟩
  intro x hx
  rcases List.mem_or_eq_of_mem_set hx with hx | rfl
  · exact h.sized x hx
  · exact hz
end Go.Proofs.YtljmklohgpaopaaGreatDoor

namespace Go.Proofs.YtljmklohgpaopaaGreatDoor
open Go.RowKit

/-- A reader: what is left, and is it bad? -/
def Rdr (w : World) (g : Nat) (l : List UInt8) (bad : Bool) : Prop :=
  ∃ A cap, l.length ≤ cap ∧ l.length ≤ 140737488351232 ∧ Blk w g 289 [.slice A l.length cap, .bool bad] ∧ BytesAt w A l ∧ ∀ p, A = some p → p.block < g
theorem BytesAt.cut {w : World} {A : Option Addr} {l : List UInt8} (h : BytesAt w A l) (n cap : Nat) (hn : n ≤ l.length) (hc : l.length ≤ cap) : BytesAt w (if cap = n then A else A.map (·.add n)) (l.drop n) := by
  by_cases hcn : cap = n
  · rw [if_pos hcn]
    exact .inl (List.drop_eq_nil_of_le (by omega))
  · rw [if_neg hcn]
    rcases h with rfl | ⟨b, off, rfl, h⟩
    · exact .inl (by simp)
    · refine .inr ⟨b, off + n, by simp [addr_add], fun i hi => ?_⟩
      rw [List.length_drop] at hi
      rw [List.getElem_drop, Nat.add_assoc]
      exact h (n + i) (by omega)
theorem BytesAt.head {w : World} {A : Option Addr} {l : List UInt8} (h : BytesAt w A l) (n : Nat) : BytesAt w A (l.take n) := by
  rcases h with rfl | ⟨b, off, rfl, h⟩
  · exact .inl (by simp)
  · refine .inr ⟨b, off, rfl, fun i hi => ?_⟩
    rw [List.length_take] at hi
    rw [List.getElem_take]
    exact h i (by omega)
theorem below_block {w w' : World} {g : Nat} (hl : g < w.heap.size) (h : Only (· = g) w w') {A : Option Addr} {l : List UInt8} (hb : BytesAt w A l) (hA : ∀ p, A = some p → p.block < g) : BytesAt w' A l :=
  h.bytes hb (fun p hp he => by have := hA p hp; omega)
theorem Rdr.put {w w' : World} {g : Nat} {A : Option Addr} {l : List UInt8} {m cap : Nat} {bad : Bool} (hlt : g < w.heap.size) (h : Only (· = g) w w') (hB : Blk w' g 289 [.slice A m cap, .bool bad]) (hm : l.length = m) (hc : m ≤ cap) (hm2 : m ≤ 140737488351232)
    (hb : BytesAt w A l) (hA : ∀ p, A = some p → p.block < g) : Rdr w' g l bad := by
  subst hm
  exact ⟨A, cap, hc, hm2, hB, below_block hlt h hb hA, hA⟩

theorem or_byte (a c : Nat) (h : a < 72057594037927936) (hc : c < 256) : bits .or .u64 ((a : Int) * 256) (c : Int) = ((256 * a + c : Nat) : Int) := by
  rw [bits_join .u64 64 (by decide) (fun n h0 h1 => by rw [IntKind.wrap_u64]; omega) 8 _ _ (by omega) (by omega) (by omega) (by omega) (by omega) (by omega)]
  omega
end Go.Proofs.YtljmklohgpaopaaGreatDoor

namespace Go.Proofs.YtljmklohgpaopaaGreatDoor
open Go.RowKit

theorem Rdr.lt {w : World} {g : Nat} {l : List UInt8} {bad : Bool} (h : Rdr w g l bad) : g < w.heap.size := by
  obtain ⟨A, cap, _, _, hB, _⟩ := h
  exact hB.lt
theorem Rdr.only {F : Nat → Prop} {w w' : World} {g : Nat} {l : List UInt8} {bad : Bool} (h : Rdr w g l bad) (ho : Only F w w') (hF : ∀ x, x ≤ g → ¬ F x) : Rdr w' g l bad := by
  obtain ⟨A, cap, h1, h2, hB, hb, hA⟩ := h
  exact ⟨A, cap, h1, h2, ho.blk hB (hF g (Nat.le_refl _)), ho.bytes hb (fun p hp => hF _ (Nat.le_of_lt (hA p hp))), hA⟩
theorem Rdr.below {w w' : World} {g : Nat} {l : List UInt8} {bad : Bool} (h : Rdr w g l bad) (hb : Below w.heap.size w w') : Rdr w' g l bad := h.only (Only.of_below hb (fun _ => False)) (fun _ _ hx => hx)
theorem Rdr.length {w : World} {g : Nat} {l : List UInt8} {bad : Bool} (h : Rdr w g l bad) : l.length ≤ 140737488351232 := by
  obtain ⟨A, cap, _, h2, _⟩ := h
  exact h2

end Go.Proofs.YtljmklohgpaopaaGreatDoor

namespace Go.Proofs.YtljmklohgpaopaaGreatDoor
open Go.RowKit

/-- A row of the call's own; or a slice whose length is its capacity, and whose cells these are. -/
def Ready (w : World) (base : Nat) (e : TypeId) (size : Nat) (v : Value) (n : Nat) (xs : List Value) : Prop :=
  w.ownsRow base e size v n xs ∨ (xs.length = n * size ∧ ∃ b off, v = .slice (some ⟨b, off, none⟩) n n ∧ Src w (some ⟨b, off, none⟩) xs)
theorem Ready.own {w : World} {base : Nat} {e : TypeId} {size n : Nat} {v : Value} {xs : List Value} (h : w.ownsRow base e size v n xs) : Ready w base e size v n xs := .inl h
theorem Ready.alloc {w : World} {base : Nat} {e : TypeId} {size n : Nat} {v : Value} {xs : List Value} (h : Ready w base e size v n xs) (o : Obj) : Ready (w.alloc o) base e size v n xs := by
  rcases h with h | ⟨hl, b, off, hv, hs⟩
  · exact .inl (h.alloc o)
  · exact .inr ⟨hl, b, off, hv, hs.below ((Below.refl _ _).alloc (Nat.le_refl _) o)⟩

section
variable {P : Program} (w : World)
theorem run_append_ready (base : Nat) (t ty e : TypeId) (i : TypeInfo) (z : Value) (size bytes : Nat) (ht : P.underlying t = some (.slice e)) (hi : P.info? e = some i) (hz : i.zero = some z)
    (hsize : i.size = size) (hby : i.bytes = bytes) (hzs : z.cells.size = size) (hsz : 0 < size)
    (v : Value) (n : Nat) (xs : List Value) (hown : Ready w base e size v n xs)
    (A : Option Addr) (m c : Nat) (news : List Value) (hl : news.length = m * size) (hr : Src w A news) (h1 : ∀ u ∈ news, u.oneCell' = true) (hm0 : 0 < m)
    (h63 : n + m ≤ maxLen) (hbytes : ∀ old, old < n + m → Builtin.nextslicecap (n + m) old * bytes ≤ 281474976710656) (hbase : base ≤ w.heap.size) :
    ∃ v' w', (Builtin.append_ #[t, t] ty #[v, .slice A m c]).run P w = .ok v' w' ∧ w'.ownsRow base e size v' (n + m) (xs ++ news) ∧ Below base w w' ∧
      (∀ k, k < w.heap.size → v.ownBlock ≠ some k → w'.heap[k]? = w.heap[k]?) ∧ (v'.ownBlock = v.ownBlock ∨ v'.ownBlock = some w.heap.size) := by
  rcases hown with hown | ⟨hxl, b, off, rfl, hsrc⟩
  · obtain ⟨v', w', h2, h3, h4, h5⟩ := run_append_src (P := P) w base t ty e i z size bytes ht hi hz hsize hby hzs hsz v n xs hown A m c news hl hr h1 h63 hbytes hbase
    exact ⟨v', w', h2, h3, (Below.refl base w).grown h4 hbase (fun k hk => (hown.lt k hk).1), fun k hk hne => h4.block k hk (fun e => hne e.symm), h5⟩
  · subst hsize
    subst hby
    have hpos : 0 < news.length := by rw [hl]; exact Nat.mul_pos hm0 hsz
    obtain ⟨b2, off2, rfl, hcells⟩ : ∃ b2 off2, A = some ⟨b2, off2, none⟩ ∧ ∀ j u, news[j]? = some u → w.cell? ⟨b2, off2 + j, none⟩ = some u := by
      rcases hr with h | h
      · rw [h] at hpos; simp at hpos
      · exact h
    have hsmall : n + m ≤ 9223372036854775807 := by simp only [maxLen] at h63; omega
    have hrun := run_append_grow (P := P) w t ty e i z ht hi hz ⟨b, off, none⟩ n n xs hxl (fun j u hu => by
        obtain ⟨b', off', e1, hc⟩ := hsrc.at_ j u hu
        cases e1
        rw [addr_add]; exact hc) ⟨b2, off2, none⟩ m c news hl (fun j u hu => by rw [addr_add]; exact hcells j u hu) (by omega) (by omega) (hbytes n (by omega))
    have hge := grownCap_ge w (n + m) n e
    have hcm : grownCap w (n + m) n e ≤ maxLen := grownCap_le_maxLen w (n + m) n e h63
    have hlen : (xs ++ news).length = (n + m) * i.size := by rw [List.length_append, hxl, hl, Nat.add_mul]
    refine ⟨_, _, hrun, ⟨hlen, .inr ⟨w.heap.size, _, _, rfl, hbase, heap_alloc_new w.drew _, hge, hcm, ?_, ?_⟩⟩, ((Below.refl base w).drew).alloc hbase _, fun k hk _ => Below.heap_alloc w.drew _ k hk, .inr rfl⟩
    · simp only [Array.size_append, List.size_toArray, size_zeroCells, hzs, hxl, hl, ← Nat.add_mul]
      congr 1
      omega
    · simp only [Array.toList_append, List.append_assoc]
      rw [← List.append_assoc, ← hlen]
      exact List.take_left

theorem wp_append_ready {o : Oper} {a : Act} {K : Act → World → Prop} {Q : Exit → Act → World → Prop} (s x : Operand) (t : TypeId)
    (ho : o.op = .call { callee := .builtin .append, args := #[s, x], argTypes := #[t, t] })
    (base : Nat) (e : TypeId) (i : TypeInfo) (z : Value) (size bytes : Nat) (ht : P.underlying t = some (.slice e)) (hi : P.info? e = some i) (hz : i.zero = some z)
    (hsize : i.size = size) (hby : i.bytes = bytes) (hzs : z.cells.size = size) (hsz : 0 < size)
    (v : Value) (n : Nat) (xs : List Value) (hs : a.eval s = v) (hown : Ready w base e size v n xs)
    (A : Option Addr) (m c : Nat) (news : List Value) (hx : a.eval x = .slice A m c) (hl : news.length = m * size) (hr : Src w A news) (h1 : ∀ u ∈ news, u.oneCell' = true) (hm0 : 0 < m)
    (h63 : n + m ≤ maxLen) (hbytes : ∀ old, old < n + m → Builtin.nextslicecap (n + m) old * bytes ≤ 281474976710656) (hbase : base ≤ w.heap.size)
    (h : ∀ v' w', w'.ownsRow base e size v' (n + m) (xs ++ news) → Below base w w' → (∀ k, k < w.heap.size → v.ownBlock ≠ some k → w'.heap[k]? = w.heap[k]?) → (v'.ownBlock = v.ownBlock ∨ v'.ownBlock = some w.heap.size) → K (a.put o.dst v') w') : o.wp P a w K Q := by
  obtain ⟨v', w', hrun, h2, h3, h4, h5⟩ := run_append_ready (P := P) w base t o.type e i z size bytes ht hi hz hsize hby hzs hsz v n xs hown A m c news hl hr h1 hm0 h63 hbytes hbase
  unfold Oper.wp execOp
  simp only [ho, resolve, invoke, builtin, Sem.run_bind, Sem.run_pure, Result.andThen_ok, List.map_toArray, List.map_cons, List.map_nil, hs, hx, hrun]
  exact h v' w' h2 h3 h4 h5

theorem wpList_append_ready {ops : Array Oper} {rest : List Oper} {o : Oper} {a : Act} {Q : Exit → Act → World → Prop} (hgd : o.guard = none) (s x : Operand) (t : TypeId)
    (ho : o.op = .call { callee := .builtin .append, args := #[s, x], argTypes := #[t, t] })
    (base : Nat) (e : TypeId) (i : TypeInfo) (z : Value) (size bytes : Nat) (ht : P.underlying t = some (.slice e)) (hi : P.info? e = some i) (hz : i.zero = some z)
    (hsize : i.size = size) (hby : i.bytes = bytes) (hzs : z.cells.size = size) (hsz : 0 < size)
    (v : Value) (n : Nat) (xs : List Value) (hs : a.eval s = v) (hown : Ready w base e size v n xs)
    (A : Option Addr) (m c : Nat) (news : List Value) (hx : a.eval x = .slice A m c) (hl : news.length = m * size) (hr : Src w A news) (h1 : ∀ u ∈ news, u.oneCell' = true) (hm0 : 0 < m)
    (h63 : n + m ≤ maxLen) (hbytes : ∀ old, old < n + m → Builtin.nextslicecap (n + m) old * bytes ≤ 281474976710656) (hbase : base ≤ w.heap.size)
    (h : ∀ v' w', w'.ownsRow base e size v' (n + m) (xs ++ news) → Below base w w' → (∀ k, k < w.heap.size → v.ownBlock ≠ some k → w'.heap[k]? = w.heap[k]?) → (v'.ownBlock = v.ownBlock ∨ v'.ownBlock = some w.heap.size) → wpList P ops Q rest (a.put o.dst v') w') : wpList P ops Q (o :: rest) a w :=
  wpList_plain hgd fun _ hK => wp_append_ready w s x t ho base e i z size bytes ht hi hz hsize hby hzs hsz v n xs hs hown A m c news hx hl hr h1 hm0 h63 hbytes hbase fun v' w' h2 h3 h4 h5 => hK _ _ (h v' w' h2 h3 h4 h5)
end

/-- []byte("..") of a literal: the row that was just made is marked. -/
theorem run_mark {P : Program} (w : World) (t e : TypeId) (cs : Array Value) (n : Nat) (ht : P.underlying t = some (.slice e)) (he : P.underlying e = some (.int .u8)) (hn : n = cs.size) :
    (convert t t (.slice (some ⟨w.heap.size, 0, none⟩) n n)).run P (w.alloc (.cells cs e)) = .ok (.slice (some ⟨w.heap.size, 0, none⟩) n n) (w.alloc (.cells cs e (n, n + 1))) := by
  subst hn
  have hsh : (w.alloc (.cells cs e)).shape? w.heap.size = some (e, cs.size) := by
    unfold World.shape?
    rw [heap_alloc_new]
  have hfr : (w.alloc (.cells cs e)).freeze ⟨w.heap.size, cs.size, none⟩ 1 = w.alloc (.cells cs e (cs.size, cs.size + 1)) := by
    have hm : ∀ (a : Array Obj) (x : Obj) (f : Obj → Obj), (a.push x).modify a.size f = a.push (f x) := by
      intro a x f
      apply Array.ext
      · simp
      · intro i h1 h2
        simp only [Array.getElem_modify, Array.getElem_push]
        by_cases h : a.size = i
        · subst h
          simp
        · have hi : i < a.size := by simp at h1; omega
          simp [h, hi]
    unfold World.freeze
    rw [if_neg (by decide)]
    show ({ w.alloc (.cells cs e) with heap := (w.heap.push (.cells cs e)).modify w.heap.size _ } : World) = _
    rw [hm]
    rfl
  simp [convert, run_underlying ht, run_underlying he, markStringish, hsh, hfr]
end Go.Proofs.YtljmklohgpaopaaGreatDoor

namespace Go.Proofs.YtljmklohgpaopaaGreatDoor
open Go.RowKit

theorem bv_snoc (l : List UInt8) (c : UInt8) : bv (l ++ [c]) = bv l ++ [.int .u8 (c.toNat : Int)] := by simp [bv]

set_option maxHeartbeats 1000000 in
set_option maxRecDepth 100000 in
theorem put_any (v : Value) (n : Nat) (l : List UInt8) (x s base : Nat) (w : World) (hown : Ready w base 5 1 v n (bv l)) (hbase : base ≤ w.heap.size) (hx : x < 18446744073709551616) (hs : s ≤ 8) (hs0 : 0 < s) (hn : n ≤ 70368744177664) :
    Calls Tryz.prog 130 #[v, .int .u64 x, .int .i64 s] w fun e w' => ∃ v', e = .returned v' ∧ w'.ownsRow base 5 1 v' (n + s) (bv (l ++ Pl.be s x)) ∧ Below base w w' ∧
      (∀ k, k < w.heap.size → v.ownBlock ≠ some k → w'.heap[k]? = w.heap[k]? ∧ v'.ownBlock ≠ some k) := by
  obtain ⟨i0, hi, hz0, hz1, hz2⟩ := info_parts Tryz.infoByte
  go_enter Tryz.func130, Tryz.ntmps130
  go_wp2_with fail
  go_loopw [0, 7] (fun u i wr => ∃ j : Nat, j ≤ s ∧ i = .int .i64 ((s : Int) - 1 - j) ∧ Hid (Ready wr base 5 1 u (n + j) (bv (l ++ (Pl.be s x).take j))) ∧ Hid (0 < j → wr.ownsRow base 5 1 u (n + j) (bv (l ++ (Pl.be s x).take j))) ∧ Below base w wr ∧
      Hid (∀ k, k < w.heap.size → v.ownBlock ≠ some k → wr.heap[k]? = w.heap[k]? ∧ u.ownBlock ≠ some k)) (fun _ i _ => (intOf i + 1).toNat)
  case atStart => exact ⟨0, by omega, by simp, (by simpa using hown : Ready w base 5 1 v (n + 0) (bv (l ++ (Pl.be s x).take 0))), fun h => absurd h (by omega), Below.refl _ _, fun k hk hne => ⟨rfl, hne⟩⟩
  case round =>
    obtain ⟨j, hj, rfl, HO, HO1, hbel, HF⟩ := hrel
    by_cases hjs : j < s
    · obtain ⟨q, hq⟩ : ∃ q : Nat, (s : Int) - 1 - j = (q : Int) := ⟨s - 1 - j, by omega⟩
      have hq8 : q ≤ 7 := by omega
      obtain ⟨y, hy⟩ : ∃ y : Int, (x : Int) / 2 ^ (8 * q) % 256 = y := ⟨_, rfl⟩
      have hyv : y = ((UInt8.ofNat (x / 256 ^ q)).toNat : Int) := by
        rw [← hy, show (256 : Nat) = 2 ^ 8 from rfl, ← Nat.pow_mul]
        simp
      have htk : Hid (bv (l ++ (Pl.be s x).take (j + 1)) = bv (l ++ (Pl.be s x).take j) ++ [.int .u8 y]) := by
        rw [Hid, Pl.be_take_succ s x j hjs, ← List.append_assoc, bv_snoc, hyv, show s - 1 - j = q by omega]
      rw [hq]
      have HQ := Lib.hid hq
      have hown2 := Lib.hid (HO.out.alloc (.cells #[.int .u8 y] 5))
      have hsrc2 := Lib.hid (Src.of_blk (Blk.new wr 5 [.int .u8 y]))
      have hbel2 := hbel.alloc (Nat.le_trans hbase hbel.size) (.cells #[.int .u8 y] 5)
      have hbase2 : base ≤ (wr.alloc (.cells #[.int .u8 y] 5)).heap.size := Nat.le_trans (Nat.le_trans hbase hbel.size) (by simp)
      have hroom := Lib.hid (byte_room (n := n + j) (m := 1) (by omega))
      have h63 := Lib.hid (show n + j + 1 ≤ maxLen by simp only [maxLen]; omega)
      have hone : Hid (∀ u ∈ [Value.int .u8 y], u.oneCell' = true) := by
        intro u hu
        simp at hu
        subst hu
        rfl
      have hszr := hbel.size
      clear hyv hq hbel
      go_wp2_with (at_builtin
                   refine wpList_append_ready _ rfl (.tmp 14) (.tmp 20) 25 rfl base 5 i0 (.int .u8 0) 1 1 Tryz.underlying25 hi hz0 hz1 hz2 rfl (by decide) u0 (n + j) (bv (l ++ (Pl.be s x).take j)) rfl hown2.out (some ⟨wr.heap.size, 0, none⟩) 1 1 [.int .u8 y] rfl rfl hsrc2.out hone.out (by decide) h63.out hroom.out hbase2 ?_
                   intro v3 w3 hown3 hbel3 hkeep3 hat3)
      have hF := HF.out
      have hown4 : w3.ownsRow base 5 1 v3 (n + (j + 1)) (bv (l ++ (Pl.be s x).take (j + 1))) := by rw [htk.out]; exact hown3
      refine ⟨⟨j + 1, by omega, ?_, .inl hown4, fun _ => hown4, hbel2.trans hbel3, ?_⟩, ?_⟩
      · have := HQ.out
        congr 1
        omega
      · intro k hk hne
        obtain ⟨h1, h2⟩ := hF k hk hne
        refine ⟨((hkeep3 k (by simp; omega) h2).trans (Below.heap_alloc wr _ k (by omega))).trans h1, ?_⟩
        rcases hat3 with e | e
        · rw [e]; exact h2
        · rw [e]; simp; omega
      · simp [intOf]
    · obtain rfl : j = s := by omega
      have hneg : ¬ (0 : Int) ≤ (j : Int) - 1 - j := by omega
      have HF2 := HF.out
      have ho := HO1.out hs0
      rw [List.take_of_length_le (by rw [Pl.be_length]; exact Nat.le_refl _)] at ho
      have HO2 := Lib.hid ho
      clear ho HO HO1
      go_wp2_with fail
      go_ret
      exact ⟨_, rfl, HO2.out, hbel, HF2⟩

end Go.Proofs.YtljmklohgpaopaaGreatDoor

namespace Go.Proofs.YtljmklohgpaopaaGreatDoor
open Go.RowKit

theorem run_tostr (w : World) (A : Option Addr) (l : List UInt8) (cap : Nat) (h : BytesAt w A l) :
    (convert 25 9 (.slice A l.length cap)).run Tryz.prog w = .ok (.string (tstr l)) w := by
  cases A with
  | none =>
    have : l = [] := by
      rcases h with h | ⟨_, _, e, _⟩
      · exact h
      · cases e
    subst this
    exact run_convert_bytes_nil w 25 5 Tryz.underlying25 Tryz.underlying5 0 cap 9 Tryz.underlying9
  | some a =>
    refine run_convert_bytes_back (P := Tryz.prog) w 25 9 5 a cap l Tryz.underlying25 Tryz.underlying5 Tryz.underlying9 (fun j hj => ?_)
    obtain ⟨b, off, e, hc⟩ := h.at_ j hj
    cases e
    rw [addr_add]
    exact hc

theorem tstr_beq (a b : List UInt8) : ((tstr a).toList == (tstr b).toList) = (a == b) := by
  rw [ByteArray.toList_eq, ByteArray.toList_eq, tstr_list, tstr_list]

end Go.Proofs.YtljmklohgpaopaaGreatDoor

namespace Go.Proofs.YtljmklohgpaopaaGreatDoor
open Go.RowKit

/-- What hashes makes of a reader. -/
def HashesTo (l : List UInt8) (bad : Bool) (ps : List Nat) (l' : List UInt8) (bad' : Bool) : Prop :=
  (bad' = true ∧ (bad = true ∨ l.length < 1 ∨ (l.drop 1).length < 4 * Pl.num (l.take 1))) ∨
  (bad' = false ∧ bad = false ∧ 1 ≤ l.length ∧ 4 * Pl.num (l.take 1) ≤ (l.drop 1).length ∧ ps = Pl.groups ((l.drop 1).take (4 * Pl.num (l.take 1))) ∧ l' = (l.drop 1).drop (4 * Pl.num (l.take 1)))
theorem HashesTo.st {l l' : List UInt8} {bad bad' : Bool} {ps : List Nat} (h : HashesTo l bad ps l' bad') {o : Option Pl.Ev} {f : List UInt8 → List UInt8 → Option Pl.Ev}
    (hs : Pl.St o bad (Pl.bt 1 l fun k l => Pl.bt (4 * Pl.num k) l f)) : ∃ p, Pl.St o bad' (f p l') ∧ (bad' = false → ps = Pl.groups p) := by
  rcases h with ⟨rfl, h⟩ | ⟨rfl, rfl, h1, h2, rfl, rfl⟩
  · refine ⟨[], ?_, fun h => by cases h⟩
    rcases h with rfl | h | h
    · exact hs.bad _
    · exact hs.short h _
    · exact hs.take.short h _
  · refine ⟨(l.drop 1).take (4 * Pl.num (l.take 1)), ?_, fun _ => rfl⟩
    have := hs.take.take
    rwa [decide_eq_false (by omega), decide_eq_false (by omega), Bool.or_false, Bool.or_false] at this
/-- Where the loop stands behind so many rounds. -/
def HashesAt (l1 : List UInt8) (bad1 : Bool) (r : Nat) (ps : List Nat) (lr : List UInt8) (br : Bool) : Prop :=
  (br = true ∧ (bad1 = true ∨ l1.length < 4 * r)) ∨ (br = false ∧ bad1 = false ∧ 4 * r ≤ l1.length ∧ ps = Pl.groups (l1.take (4 * r)) ∧ lr = l1.drop (4 * r))
theorem groups_snoc (l : List UInt8) (r : Nat) (h : 4 * (r + 1) ≤ l.length) : Pl.groups (l.take (4 * (r + 1))) = Pl.groups (l.take (4 * r)) ++ [Pl.hashOf ((l.drop (4 * r)).take 4)] := by
  induction r generalizing l with
  | zero =>
    rw [Nat.zero_add, Nat.mul_one, Pl.groups_long _ (by rw [List.length_take]; omega), Pl.groups_short _ (by rw [List.length_drop, List.length_take]; omega)]
    rfl
  | succ r ih =>
    have e1 : (l.take (4 * (r + 1 + 1))).drop 4 = (l.drop 4).take (4 * (r + 1)) := by rw [List.drop_take]; congr 1
    have e2 : (l.take (4 * (r + 1))).drop 4 = (l.drop 4).take (4 * r) := by rw [List.drop_take]; congr 1
    have e3 : ∀ n, 4 ≤ n → Pl.hashOf (l.take n) = Pl.hashOf l := by
      intro n hn
      unfold Pl.hashOf
      rw [List.take_append_of_le_length (by rw [List.length_take]; omega), List.take_take, List.take_append_of_le_length (by omega), Nat.min_eq_left (by omega)]
    rw [Pl.groups_long _ (by rw [List.length_take]; omega), e1, ih (l.drop 4) (by rw [List.length_drop]; omega), Pl.groups_long (l.take (4 * (r + 1))) (by rw [List.length_take]; omega), e2, e3 _ (by omega), e3 _ (by omega)]
    rw [List.cons_append, List.drop_drop, show 4 + 4 * r = 4 * (r + 1) by omega]
theorem HashesAt.step {l1 lr : List UInt8} {bad1 : Bool} {r : Nat} {ps : List Nat} (h : HashesAt l1 bad1 r ps lr false) : HashesAt l1 bad1 (r + 1) (ps ++ [Pl.hashOf (lr.take 4)]) (lr.drop 4) (false || decide (lr.length < 4)) := by
  rcases h with ⟨h, _⟩ | ⟨_, h1, h2, rfl, rfl⟩
  · cases h
  · by_cases hl : (l1.drop (4 * r)).length < 4
    · refine .inl ⟨by rw [decide_eq_true hl]; rfl, .inr ?_⟩
      rw [List.length_drop] at hl
      omega
    · refine .inr ⟨by rw [decide_eq_false hl]; rfl, h1, ?_, ?_, ?_⟩
      · rw [List.length_drop] at hl; omega
      · rw [List.length_drop] at hl; rw [groups_snoc l1 r (by omega)]
      · rw [List.drop_drop]; congr 1
theorem HashesAt.done {l : List UInt8} {bad : Bool} {r : Nat} {ps : List Nat} {lr : List UInt8} {br : Bool} (h : HashesAt (l.drop 1) (bad || decide (l.length < 1)) r ps lr br) (hr : r ≤ Pl.num (l.take 1)) (he : br = false → r = Pl.num (l.take 1)) : HashesTo l bad ps lr br := by
  rcases h with ⟨rfl, h⟩ | ⟨rfl, h1, h2, rfl, rfl⟩
  · refine .inl ⟨rfl, ?_⟩
    rcases h with h | h
    · simp at h
      rcases h with h | h
      · exact .inl h
      · exact .inr (.inl (by rw [h]; simp))
    · exact .inr (.inr (by omega))
  · obtain rfl := he rfl
    have h3 : bad = false ∧ 1 ≤ l.length := by
      cases bad
      · have : ¬ l.length < 1 := by simpa using h1
        exact ⟨rfl, by omega⟩
      · simp at h1
    exact .inr ⟨rfl, h3.1, h3.2, h2, rfl, rfl⟩

end Go.Proofs.YtljmklohgpaopaaGreatDoor

namespace Go.Proofs.YtljmklohgpaopaaGreatDoor
open Go.RowKit

namespace Pl
end Pl

end Go.Proofs.YtljmklohgpaopaaGreatDoor

namespace Go.Proofs.YtljmklohgpaopaaGreatDoor
open Go.RowKit

end Go.Proofs.YtljmklohgpaopaaGreatDoor

namespace Go.Proofs.YtljmklohgpaopaaGreatDoor
open Go.RowKit

theorem run_str_mid (w : World) (l : List UInt8) (i j : Int) (a n : Nat) (hi : i = a) (hj : j = a + n) (hn : a + n ≤ l.length) :
    (Instr.slice 9 (.string (tstr l)) (some (.int .i64 i)) (some (.int .i64 j)) none).run Tryz.prog w = .ok (.string (tstr ((l.drop a).take n))) w := by
  subst hi hj
  rw [run_slice_string_if w 9 (tstr l) .i64 .i64 a (a + n) Tryz.underlying9, if_pos ⟨by omega, by rw [tstr_size]; omega⟩, if_pos ⟨by omega, by omega⟩]
  have : (tstr l).extract (a : Int).toNat ((a : Int) + n).toNat = tstr ((l.drop a).take n) := by
    rw [Int.toNat_natCast, show ((a : Int) + n).toNat = a + n by omega]
    have h : ((tstr l).extract a (a + n)).data = (tstr ((l.drop a).take n)).data := by
      apply Array.toList_inj.1
      simp [tstr_list, tstr, List.drop_take]
    cases h1 : (tstr l).extract a (a + n); cases h2 : tstr ((l.drop a).take n); rw [h1, h2] at h; simpa using h
  rw [this]

/-- A cursor: what is left, and is it bad? -/
def Cur (w : World) (g : Nat) (l : List UInt8) (bad : Bool) : Prop := l.length ≤ 140737488351232 ∧ Blk w g 147 [.string (tstr l), .bool bad]
theorem Cur.below {w w' : World} {g : Nat} {l : List UInt8} {bad : Bool} (h : Cur w g l bad) (hb : Below w.heap.size w w') : Cur w' g l bad := ⟨h.1, h.2.below hb h.2.lt⟩
theorem Cur.grown {w w' : World} {g : Nat} {l : List UInt8} {bad : Bool} (h : Cur w g l bad) (hb : Below w.heap.size w w') : Cur w' g l bad := h.below hb

theorem zeros_at (w : World) (n : Nat) : BytesAt (w.alloc (.cells (zrow n).toArray 5)) (some ⟨w.heap.size, 0, none⟩) (List.replicate n 0) := by
  refine Src.bytes ?_
  have h : bv (List.replicate n 0) = zrow n := by simp [bv, zrow]
  rw [h]
  exact Src.of_blk (Blk.new _ _ _)
end Go.Proofs.YtljmklohgpaopaaGreatDoor
