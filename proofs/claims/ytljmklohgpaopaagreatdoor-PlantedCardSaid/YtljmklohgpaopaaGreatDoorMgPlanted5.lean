/- The disk in memory: a predicate, and its laws. The walks of the codec's Reader: Take, Num; octets.Get of bytes. The walks of the codec's Reader: Num; of the chain's hash, hashes. Laws over any program: append onto a row of the call's own, or onto a slice that has no room. The walks of octets.Put, bytes.Equal, chain.Hash, chain.header, the harness's four. The walks of bytes.Equal, chain.Hash, the harness's four, the reference's Extends. The walks of the chain's hashes and entry. The walk of chain.Extends. The reader's calls, told with how the evidence is taken apart. The walks of the reference's Number, cursor, Extends. The walks of the disk's Sectors, Dead, Read, changes, Write, Sync. A call that is guarded: what a panic with a fault makes of it. -/
import Derived.Test.YtljmklohgpaopaaGreatDoorMgPlanted4
import Derived.Test.YtljmklohgpaopaaGreatDoorMgPlanted1
import Derived.Laws.OwnMore
import Derived.Deep.Cut
import Derived.Deep.CutRange
import Derived.Outline
import Derived.Defers
import Derived.Recover
import Derived.Laws.Pointers
set_option linter.unusedVariables false
set_option linter.unusedSimpArgs false

namespace Go.Proofs.YtljmklohgpaopaaGreatDoor
open Go.RowKit

/-- A sector's cells. -/
def secCells (s : Pl.Sec) : List Value := [.string (tstr s.now), .string (tstr s.safe), .bool s.broken, .bool s.was, .bool s.fresh]
def secsCells (l : List Pl.Sec) : List Value := l.flatMap secCells
theorem secCells_length (s : Pl.Sec) : (secCells s).length = 5 := rfl
theorem secsCells_length (l : List Pl.Sec) : (secsCells l).length = l.length * 5 := by
  induction l with
  | nil => rfl
  | cons a r ih => simp only [secsCells, List.flatMap_cons, List.length_append] at ih ⊢; rw [ih]; simp [secCells]; omega
theorem secsCells_append (a b : List Pl.Sec) : secsCells (a ++ b) = secsCells a ++ secsCells b := by simp [secsCells]
theorem secsCells_cons (a : Pl.Sec) (b : List Pl.Sec) : secsCells (a :: b) = secCells a ++ secsCells b := by simp [secsCells]
theorem secsCells_split (l : List Pl.Sec) (i : Nat) (s : Pl.Sec) (hs : l[i]? = some s) : secsCells l = secsCells (l.take i) ++ (secCells s ++ secsCells (l.drop (i + 1))) := by
  have hi : i < l.length := (List.getElem?_eq_some_iff.1 hs).1
  have he : l[i] = s := (List.getElem?_eq_some_iff.1 hs).2
  conv => lhs; rw [← List.take_append_drop i l, secsCells_append, List.drop_eq_getElem_cons hi, secsCells_cons, he]
theorem secsCells_take_length (l : List Pl.Sec) (i : Nat) (hi : i < l.length) : (secsCells (l.take i)).length = i * 5 := by
  rw [secsCells_length, List.length_take, Nat.min_eq_left (by omega)]
theorem secsCells_get (l : List Pl.Sec) (i j : Nat) (s : Pl.Sec) (hs : l[i]? = some s) (hj : j < 5) : (secsCells l)[i * 5 + j]? = (secCells s)[j]? := by
  have hi : i < l.length := (List.getElem?_eq_some_iff.1 hs).1
  rw [secsCells_split l i s hs, List.getElem?_append_right (by rw [secsCells_take_length l i hi]; omega), secsCells_take_length l i hi, Nat.add_sub_cancel_left, List.getElem?_append_left (by rw [secCells_length]; exact hj)]
theorem fold_set (A C : List Value) (k : Nat) (hA : A.length = k) : ∀ (sets : List (Nat × Value)) (B : List Value), (∀ p ∈ sets, p.1 < B.length) →
    sets.foldl (fun xs p => xs.set (k + p.1) p.2) (A ++ (B ++ C)) = A ++ (sets.foldl (fun xs p => xs.set p.1 p.2) B ++ C)
  | [], _, _ => rfl
  | p :: r, B, h => by
    have h1 := h p (by simp)
    rw [List.foldl_cons, List.foldl_cons, List.set_append_right _ _ (by omega), hA, Nat.add_sub_cancel_left, List.set_append_left _ _ h1]
    exact fold_set A C k hA r (B.set p.1 p.2) (fun q hq => by rw [List.length_set]; exact h q (by simp [hq]))
/-- Some cells of a sector are laid anew. -/
theorem secsCells_sets (l : List Pl.Sec) (i : Nat) (s s' : Pl.Sec) (hs : l[i]? = some s) (sets : List (Nat × Value)) (hlt : ∀ p ∈ sets, p.1 < 5) (h : sets.foldl (fun xs p => xs.set p.1 p.2) (secCells s) = secCells s') :
    sets.foldl (fun xs p => xs.set (i * 5 + p.1) p.2) (secsCells l) = secsCells (l.set i s') := by
  have hi : i < l.length := (List.getElem?_eq_some_iff.1 hs).1
  have h' : (l.set i s')[i]? = some s' := by simp [hi]
  rw [secsCells_split l i s hs, secsCells_split (l.set i s') i s' h', fold_set _ _ _ (secsCells_take_length l i hi) sets _ (fun p hp => by rw [secCells_length]; exact hlt p hp), h]
  congr 2
  · rw [List.take_set_of_le (Nat.le_refl _)]
  · congr 1
    rw [List.drop_set_of_lt (by omega)]

/-- The disk at block g, its row v: these sectors, this life; so many reads. -/
structure DiskAt (w : World) (g : Nat) (v : Value) (d : Pl.Dk) (rd : Int) : Prop where
  most : d.secs.length ≤ 4096
  sized : ∀ s ∈ d.secs, s.now.length = 256 ∧ s.safe.length = 256
  life : -1 ≤ d.life ∧ d.life ≤ 9223372036854775807
  far : v.ownBlock ≠ some g
  own : w.ownsRow 0 104 5 v d.secs.length (secsCells d.secs)
  blk : ∃ wr sy, Blk w g 102 [v, .int .i64 d.life, .int .i64 rd, .int .i64 wr, .int .i64 sy]
/-- The disk's blocks. -/
def dF (g : Nat) (v : Value) (k : Nat) : Prop := k = g ∨ v.ownBlock = some k
theorem DiskAt.only {F : Nat → Prop} {w w' : World} {g : Nat} {v : Value} {d : Pl.Dk} {rd : Int} (h : DiskAt w g v d rd) (ho : Only F w w') (hF : ∀ k, dF g v k → ¬ F k) : DiskAt w' g v d rd := by
  obtain ⟨wr, sy, hb⟩ := h.blk
  exact ⟨h.most, h.sized, h.life, h.far, ho.own h.own (fun k hk => hF k (.inr hk)), wr, sy, ho.blk hb (hF g (.inl rfl))⟩
theorem DiskAt.below {w w' : World} {g : Nat} {v : Value} {d : Pl.Dk} {rd : Int} (h : DiskAt w g v d rd) (hb : Below w.heap.size w w') : DiskAt w' g v d rd := h.only (Only.of_below hb (fun _ => False)) (fun _ _ => id)
theorem DiskAt.lt {w : World} {g : Nat} {v : Value} {d : Pl.Dk} {rd : Int} (h : DiskAt w g v d rd) : ∀ k, dF g v k → k < w.heap.size := by
  obtain ⟨wr, sy, hb⟩ := h.blk
  rintro k (rfl | hk)
  · exact hb.lt
  · exact (h.own.lt k hk).2
theorem facts5 {w : World} {g : Nat} {t : TypeId} {a0 a1 a2 a3 a4 : Value} (h : Blk w g t [a0, a1, a2, a3, a4]) :
    w.cell? ⟨g, 0, none⟩ = some a0 ∧ w.cell? ⟨g, 1, none⟩ = some a1 ∧ w.cell? ⟨g, 2, none⟩ = some a2 ∧ w.cell? ⟨g, 3, none⟩ = some a3 ∧ w.cell? ⟨g, 4, none⟩ = some a4 ∧
    w.frozen? ⟨g, 0, none⟩ = false ∧ w.frozen? ⟨g, 1, none⟩ = false ∧ w.frozen? ⟨g, 2, none⟩ = false ∧ w.frozen? ⟨g, 3, none⟩ = false ∧ w.frozen? ⟨g, 4, none⟩ = false :=
  ⟨h.cell 0, h.cell 1, h.cell 2, h.cell 3, h.cell 4, h.frozen 0, h.frozen 1, h.frozen 2, h.frozen 3, h.frozen 4⟩
theorem own_sec {w : World} {b n cap : Nat} {l : List Pl.Sec} (ho : w.ownsRow 0 104 5 (.slice (some ⟨b, 0, none⟩) n cap) n (secsCells l)) (hn : l.length = n) {i : Nat} {s : Pl.Sec} (hs : l[i]? = some s) :
    w.cell? ⟨b, i * 5, none⟩ = some (.string (tstr s.now)) ∧ w.cell? ⟨b, i * 5 + 1, none⟩ = some (.string (tstr s.safe)) ∧ w.cell? ⟨b, i * 5 + 2, none⟩ = some (.bool s.broken) ∧
      w.cell? ⟨b, i * 5 + 3, none⟩ = some (.bool s.was) ∧ w.cell? ⟨b, i * 5 + 4, none⟩ = some (.bool s.fresh) ∧ (∀ j, w.frozen? ⟨b, j, none⟩ = false) := by
  have hi : i < l.length := (List.getElem?_eq_some_iff.1 hs).1
  have hc : ∀ j, j < 5 → w.cell? ⟨b, i * 5 + j, none⟩ = (secCells s)[j]? := fun j hj => (ho.cellAt (i * 5 + j) (by omega)).trans (secsCells_get _ _ _ _ hs hj)
  exact ⟨hc 0 (by omega), hc 1 (by omega), hc 2 (by omega), hc 3 (by omega), hc 4 (by omega), fun j => ho.frozenAt j⟩
/-- Where a disk has a sector: its row's block, the sector's cells. -/
theorem DiskAt.sec {w : World} {g : Nat} {v : Value} {d : Pl.Dk} {rd : Int} (h : DiskAt w g v d rd) {i : Nat} {s : Pl.Sec} (hs : d.secs[i]? = some s) :
    ∃ b cap, v = .slice (some ⟨b, 0, none⟩) d.secs.length cap ∧ b ≠ g ∧ w.cell? ⟨b, i * 5, none⟩ = some (.string (tstr s.now)) ∧ w.cell? ⟨b, i * 5 + 1, none⟩ = some (.string (tstr s.safe)) ∧ w.cell? ⟨b, i * 5 + 2, none⟩ = some (.bool s.broken) ∧
      w.cell? ⟨b, i * 5 + 3, none⟩ = some (.bool s.was) ∧ w.cell? ⟨b, i * 5 + 4, none⟩ = some (.bool s.fresh) ∧ (∀ j, w.frozen? ⟨b, j, none⟩ = false) := by
  have hi : i < d.secs.length := (List.getElem?_eq_some_iff.1 hs).1
  obtain ⟨b, cap, e0, _, _⟩ := own_addr h.own (by omega)
  have ho := h.own
  have hf := h.far
  rw [e0] at ho hf
  have hc : ∀ j, j < 5 → w.cell? ⟨b, i * 5 + j, none⟩ = (secCells s)[j]? := fun j hj => (ho.cellAt (i * 5 + j) (by omega)).trans (secsCells_get _ _ _ _ hs hj)
  refine ⟨b, cap, e0, fun e => hf (by rw [e]; rfl), hc 0 (by omega), hc 1 (by omega), hc 2 (by omega), hc 3 (by omega), hc 4 (by omega), fun j => ho.frozenAt j⟩
theorem DiskAt.ofHead {w w' : World} {g : Nat} {v : Value} {d : Pl.Dk} {rd : Int} (h : DiskAt w g v d rd) (ho : Only (· = g) w w') (life rd' wr sy : Int) (hl : -1 ≤ life ∧ life ≤ 9223372036854775807) (hb : Blk w' g 102 [v, .int .i64 life, .int .i64 rd', .int .i64 wr, .int .i64 sy]) :
    DiskAt w' g v ⟨d.secs, life⟩ rd' :=
  ⟨h.most, h.sized, hl, h.far, ho.own h.own (fun k hk e => h.far (by rw [hk, e])), wr, sy, hb⟩
theorem own_sets {base b n cap i : Nat} {e : TypeId} : ∀ (sets : List (Nat × Value)) {w : World} {xs : List Value}, w.ownsRow base e 5 (.slice (some ⟨b, 0, none⟩) n cap) n xs →
    (sets.foldl (fun W p => W.setCell ⟨b, i * 5 + p.1, none⟩ p.2) w).ownsRow base e 5 (.slice (some ⟨b, 0, none⟩) n cap) n (sets.foldl (fun xs p => xs.set (i * 5 + p.1) p.2) xs)
  | [], _, _, h => h
  | p :: r, _, _, h => own_sets r (h.stored (i * 5 + p.1) p.2).1
theorem only_sets {b i : Nat} {F : Nat → Prop} (hF : F b) : ∀ (sets : List (Nat × Value)) {a w : World}, Only F a w → Only F a (sets.foldl (fun W p => W.setCell ⟨b, i * 5 + p.1, none⟩ p.2) w)
  | [], _, _, h => h
  | p :: r, _, _, h => only_sets hF r (h.setCell (.inl hF) p.2)
/-- Some cells of a sector are laid anew. -/
theorem DiskAt.sets {w : World} {g b cap : Nat} {d : Pl.Dk} {rd : Int} (h : DiskAt w g (.slice (some ⟨b, 0, none⟩) d.secs.length cap) d rd) {i : Nat} {s : Pl.Sec} (hs : d.secs[i]? = some s) (s' : Pl.Sec) (hz : s'.now.length = 256 ∧ s'.safe.length = 256)
    (sets : List (Nat × Value)) (hlt : ∀ p ∈ sets, p.1 < 5) (he : sets.foldl (fun xs p => xs.set p.1 p.2) (secCells s) = secCells s') :
    DiskAt (sets.foldl (fun W p => W.setCell ⟨b, i * 5 + p.1, none⟩ p.2) w) g (.slice (some ⟨b, 0, none⟩) d.secs.length cap) ⟨d.secs.set i s', d.life⟩ rd ∧
    Only (· = b) w (sets.foldl (fun W p => W.setCell ⟨b, i * 5 + p.1, none⟩ p.2) w) := by
  have ho := only_sets (b := b) (i := i) (F := (· = b)) rfl sets (Only.refl _ w)
  have hbg : g ≠ b := fun e => h.far (by rw [e]; rfl)
  obtain ⟨wr, sy, hb⟩ := h.blk
  have hown := own_sets (i := i) sets h.own
  rw [secsCells_sets d.secs i s s' hs sets hlt he] at hown
  refine ⟨⟨by simpa using h.most, ?_, h.life, h.far, by simpa using hown, wr, sy, ho.blk hb hbg⟩, ho⟩
  intro x hx
  rcases List.mem_or_eq_of_mem_set hx with hx | rfl
  · exact h.sized x hx
  · exact hz
end Go.Proofs.YtljmklohgpaopaaGreatDoor

namespace Go.Proofs.YtljmklohgpaopaaGreatDoor
open Go.RowKit

theorem or_byte (a c : Nat) (h : a < 72057594037927936) (hc : c < 256) : bits .or .u64 ((a : Int) * 256) (c : Int) = ((256 * a + c : Nat) : Int) := by
  rw [bits_join .u64 64 (by decide) (fun n h0 h1 => by rw [IntKind.wrap_u64]; omega) 8 _ _ (by omega) (by omega) (by omega) (by omega) (by omega) (by omega)]
  omega
end Go.Proofs.YtljmklohgpaopaaGreatDoor

namespace Go.Proofs.YtljmklohgpaopaaGreatDoor
open Go.RowKit

end Go.Proofs.YtljmklohgpaopaaGreatDoor

namespace Go.Proofs.YtljmklohgpaopaaGreatDoor
open Go.RowKit

/-- A row of the call's own; or a slice whose length is its capacity, and whose cells these are. -/
def Ready (w : World) (base : Nat) (e : TypeId) (size : Nat) (v : Value) (n : Nat) (xs : List Value) : Prop :=
  w.ownsRow base e size v n xs ∨ (xs.length = n * size ∧ ∃ b off, v = .slice (some ⟨b, off, none⟩) n n ∧ Src w (some ⟨b, off, none⟩) xs)
theorem Ready.own {w : World} {base : Nat} {e : TypeId} {size n : Nat} {v : Value} {xs : List Value} (h : w.ownsRow base e size v n xs) : Ready w base e size v n xs := .inl h
theorem Ready.alloc {w : World} {base : Nat} {e : TypeId} {size n : Nat} {v : Value} {xs : List Value} (h : Ready w base e size v n xs) (o : Obj) : Ready (w.alloc o) base e size v n xs := by
  rcases h with h | ⟨hl, b, off, hv, hs⟩
  · exact .inl (h.alloc o)
  · exact .inr ⟨hl, b, off, hv, hs.below ((Below.refl _ _).alloc (Nat.le_refl _) o)⟩

section
variable {P : Program} (w : World)
theorem run_append_ready (base : Nat) (t ty e : TypeId) (i : TypeInfo) (z : Value) (size bytes : Nat) (ht : P.underlying t = some (.slice e)) (hi : P.info? e = some i) (hz : i.zero = some z)
    (hsize : i.size = size) (hby : i.bytes = bytes) (hzs : z.cells.size = size) (hsz : 0 < size)
    (v : Value) (n : Nat) (xs : List Value) (hown : Ready w base e size v n xs)
    (A : Option Addr) (m c : Nat) (news : List Value) (hl : news.length = m * size) (hr : Src w A news) (h1 : ∀ u ∈ news, u.oneCell' = true) (hm0 : 0 < m)
    (h63 : n + m ≤ maxLen) (hbytes : ∀ old, old < n + m → Builtin.nextslicecap (n + m) old * bytes ≤ 281474976710656) (hbase : base ≤ w.heap.size) :
    ∃ v' w', (Builtin.append_ #[t, t] ty #[v, .slice A m c]).run P w = .ok v' w' ∧ w'.ownsRow base e size v' (n + m) (xs ++ news) ∧ Below base w w' ∧
      (∀ k, k < w.heap.size → v.ownBlock ≠ some k → w'.heap[k]? = w.heap[k]?) ∧ (v'.ownBlock = v.ownBlock ∨ v'.ownBlock = some w.heap.size) := by
  rcases hown with hown | ⟨hxl, b, off, rfl, hsrc⟩
  · obtain ⟨v', w', h2, h3, h4, h5⟩ := run_append_src (P := P) w base t ty e i z size bytes ht hi hz hsize hby hzs hsz v n xs hown A m c news hl hr h1 h63 hbytes hbase
    exact ⟨v', w', h2, h3, (Below.refl base w).grown h4 hbase (fun k hk => (hown.lt k hk).1), fun k hk hne => h4.block k hk (fun e => hne e.symm), h5⟩
  · subst hsize
    subst hby
    have hpos : 0 < news.length := by rw [hl]; exact Nat.mul_pos hm0 hsz
    obtain ⟨b2, off2, rfl, hcells⟩ : ∃ b2 off2, A = some ⟨b2, off2, none⟩ ∧ ∀ j u, news[j]? = some u → w.cell? ⟨b2, off2 + j, none⟩ = some u := by
      rcases hr with h | h
      · rw [h] at hpos; simp at hpos
      · exact h
    have hsmall : n + m ≤ 9223372036854775807 := by simp only [maxLen] at h63; omega
    have hrun := run_append_grow (P := P) w t ty e i z ht hi hz ⟨b, off, none⟩ n n xs hxl (fun j u hu => by
        obtain ⟨b', off', e1, hc⟩ := hsrc.at_ j u hu
        cases e1
        rw [addr_add]; exact hc) ⟨b2, off2, none⟩ m c news hl (fun j u hu => by rw [addr_add]; exact hcells j u hu) (by omega) (by omega) (hbytes n (by omega))
    have hge := grownCap_ge w (n + m) n e
    have hcm : grownCap w (n + m) n e ≤ maxLen := grownCap_le_maxLen w (n + m) n e h63
    have hlen : (xs ++ news).length = (n + m) * i.size := by rw [List.length_append, hxl, hl, Nat.add_mul]
    refine ⟨_, _, hrun, ⟨hlen, .inr ⟨w.heap.size, _, _, rfl, hbase, heap_alloc_new w.drew _, hge, hcm, ?_, ?_⟩⟩, ((Below.refl base w).drew).alloc hbase _, fun k hk _ => Below.heap_alloc w.drew _ k hk, .inr rfl⟩
    · simp only [Array.size_append, List.size_toArray, size_zeroCells, hzs, hxl, hl, ← Nat.add_mul]
      congr 1
      omega
    · simp only [Array.toList_append, List.append_assoc]
      rw [← List.append_assoc, ← hlen]
      exact List.take_left

theorem wp_append_ready {o : Oper} {a : Act} {K : Act → World → Prop} {Q : Exit → Act → World → Prop} (s x : Operand) (t : TypeId)
    (ho : o.op = .call { callee := .builtin .append, args := #[s, x], argTypes := #[t, t] })
    (base : Nat) (e : TypeId) (i : TypeInfo) (z : Value) (size bytes : Nat) (ht : P.underlying t = some (.slice e)) (hi : P.info? e = some i) (hz : i.zero = some z)
    (hsize : i.size = size) (hby : i.bytes = bytes) (hzs : z.cells.size = size) (hsz : 0 < size)
    (v : Value) (n : Nat) (xs : List Value) (hs : a.eval s = v) (hown : Ready w base e size v n xs)
    (A : Option Addr) (m c : Nat) (news : List Value) (hx : a.eval x = .slice A m c) (hl : news.length = m * size) (hr : Src w A news) (h1 : ∀ u ∈ news, u.oneCell' = true) (hm0 : 0 < m)
    (h63 : n + m ≤ maxLen) (hbytes : ∀ old, old < n + m → Builtin.nextslicecap (n + m) old * bytes ≤ 281474976710656) (hbase : base ≤ w.heap.size)
    (h : ∀ v' w', w'.ownsRow base e size v' (n + m) (xs ++ news) → Below base w w' → (∀ k, k < w.heap.size → v.ownBlock ≠ some k → w'.heap[k]? = w.heap[k]?) → (v'.ownBlock = v.ownBlock ∨ v'.ownBlock = some w.heap.size) → K (a.put o.dst v') w') : o.wp P a w K Q := by
  obtain ⟨v', w', hrun, h2, h3, h4, h5⟩ := run_append_ready (P := P) w base t o.type e i z size bytes ht hi hz hsize hby hzs hsz v n xs hown A m c news hl hr h1 hm0 h63 hbytes hbase
  unfold Oper.wp execOp
  simp only [ho, resolve, invoke, builtin, Sem.run_bind, Sem.run_pure, Result.andThen_ok, List.map_toArray, List.map_cons, List.map_nil, hs, hx, hrun]
  exact h v' w' h2 h3 h4 h5

theorem wpList_append_ready {ops : Array Oper} {rest : List Oper} {o : Oper} {a : Act} {Q : Exit → Act → World → Prop} (hgd : o.guard = none) (s x : Operand) (t : TypeId)
    (ho : o.op = .call { callee := .builtin .append, args := #[s, x], argTypes := #[t, t] })
    (base : Nat) (e : TypeId) (i : TypeInfo) (z : Value) (size bytes : Nat) (ht : P.underlying t = some (.slice e)) (hi : P.info? e = some i) (hz : i.zero = some z)
    (hsize : i.size = size) (hby : i.bytes = bytes) (hzs : z.cells.size = size) (hsz : 0 < size)
    (v : Value) (n : Nat) (xs : List Value) (hs : a.eval s = v) (hown : Ready w base e size v n xs)
    (A : Option Addr) (m c : Nat) (news : List Value) (hx : a.eval x = .slice A m c) (hl : news.length = m * size) (hr : Src w A news) (h1 : ∀ u ∈ news, u.oneCell' = true) (hm0 : 0 < m)
    (h63 : n + m ≤ maxLen) (hbytes : ∀ old, old < n + m → Builtin.nextslicecap (n + m) old * bytes ≤ 281474976710656) (hbase : base ≤ w.heap.size)
    (h : ∀ v' w', w'.ownsRow base e size v' (n + m) (xs ++ news) → Below base w w' → (∀ k, k < w.heap.size → v.ownBlock ≠ some k → w'.heap[k]? = w.heap[k]?) → (v'.ownBlock = v.ownBlock ∨ v'.ownBlock = some w.heap.size) → wpList P ops Q rest (a.put o.dst v') w') : wpList P ops Q (o :: rest) a w :=
  wpList_plain hgd fun _ hK => wp_append_ready w s x t ho base e i z size bytes ht hi hz hsize hby hzs hsz v n xs hs hown A m c news hx hl hr h1 hm0 h63 hbytes hbase fun v' w' h2 h3 h4 h5 => hK _ _ (h v' w' h2 h3 h4 h5)
end

/-- []byte("..") of a literal: the row that was just made is marked. -/
theorem run_mark {P : Program} (w : World) (t e : TypeId) (cs : Array Value) (n : Nat) (ht : P.underlying t = some (.slice e)) (he : P.underlying e = some (.int .u8)) (hn : n = cs.size) :
    (convert t t (.slice (some ⟨w.heap.size, 0, none⟩) n n)).run P (w.alloc (.cells cs e)) = .ok (.slice (some ⟨w.heap.size, 0, none⟩) n n) (w.alloc (.cells cs e (n, n + 1))) := by
  subst hn
  have hsh : (w.alloc (.cells cs e)).shape? w.heap.size = some (e, cs.size) := by
    unfold World.shape?
    rw [heap_alloc_new]
  have hfr : (w.alloc (.cells cs e)).freeze ⟨w.heap.size, cs.size, none⟩ 1 = w.alloc (.cells cs e (cs.size, cs.size + 1)) := by
    have hm : ∀ (a : Array Obj) (x : Obj) (f : Obj → Obj), (a.push x).modify a.size f = a.push (f x) := by
      intro a x f
      apply Array.ext
      · simp
      · intro i h1 h2
        simp only [Array.getElem_modify, Array.getElem_push]
        by_cases h : a.size = i
        · subst h
          simp
        · have hi : i < a.size := by simp at h1; omega
          simp [h, hi]
    unfold World.freeze
    rw [if_neg (by decide)]
    show ({ w.alloc (.cells cs e) with heap := (w.heap.push (.cells cs e)).modify w.heap.size _ } : World) = _
    rw [hm]
    rfl
  simp [convert, run_underlying ht, run_underlying he, markStringish, hsh, hfr]
end Go.Proofs.YtljmklohgpaopaaGreatDoor

namespace Go.Proofs.YtljmklohgpaopaaGreatDoor
open Go.RowKit

theorem bv_snoc (l : List UInt8) (c : UInt8) : bv (l ++ [c]) = bv l ++ [.int .u8 (c.toNat : Int)] := by simp [bv]

set_option maxHeartbeats 1000000 in
set_option maxRecDepth 100000 in
theorem put_any (v : Value) (n : Nat) (l : List UInt8) (x s base : Nat) (w : World) (hown : Ready w base 5 1 v n (bv l)) (hbase : base ≤ w.heap.size) (hx : x < 18446744073709551616) (hs : s ≤ 8) (hs0 : 0 < s) (hn : n ≤ 70368744177664) :
    Calls Tryz.prog 130 #[v, .int .u64 x, .int .i64 s] w fun e w' => ∃ v', e = .returned v' ∧ w'.ownsRow base 5 1 v' (n + s) (bv (l ++ Pl.be s x)) ∧ Below base w w' ∧
      (∀ k, k < w.heap.size → v.ownBlock ≠ some k → w'.heap[k]? = w.heap[k]? ∧ v'.ownBlock ≠ some k) := by
  obtain ⟨i0, hi, hz0, hz1, hz2⟩ := info_parts Tryz.infoByte
  go_enter Tryz.func130, Tryz.ntmps130
  go_wp2_with fail
  go_loopw [0, 7] (fun u i wr => ∃ j : Nat, j ≤ s ∧ i = .int .i64 ((s : Int) - 1 - j) ∧ Hid (Ready wr base 5 1 u (n + j) (bv (l ++ (Pl.be s x).take j))) ∧ Hid (0 < j → wr.ownsRow base 5 1 u (n + j) (bv (l ++ (Pl.be s x).take j))) ∧ Below base w wr ∧
      Hid (∀ k, k < w.heap.size → v.ownBlock ≠ some k → wr.heap[k]? = w.heap[k]? ∧ u.ownBlock ≠ some k)) (fun _ i _ => (intOf i + 1).toNat)
  case atStart => exact ⟨0, by omega, by simp, (by simpa using hown : Ready w base 5 1 v (n + 0) (bv (l ++ (Pl.be s x).take 0))), fun h => absurd h (by omega), Below.refl _ _, fun k hk hne => ⟨rfl, hne⟩⟩
  case round =>
    obtain ⟨j, hj, rfl, HO, HO1, hbel, HF⟩ := hrel
    by_cases hjs : j < s
    · obtain ⟨q, hq⟩ : ∃ q : Nat, (s : Int) - 1 - j = (q : Int) := ⟨s - 1 - j, by omega⟩
      have hq8 : q ≤ 7 := by omega
      obtain ⟨y, hy⟩ : ∃ y : Int, (x : Int) / 2 ^ (8 * q) % 256 = y := ⟨_, rfl⟩
      have hyv : y = ((UInt8.ofNat (x / 256 ^ q)).toNat : Int) := by
        rw [← hy, show (256 : Nat) = 2 ^ 8 from rfl, ← Nat.pow_mul]
        simp
      have htk : Hid (bv (l ++ (Pl.be s x).take (j + 1)) = bv (l ++ (Pl.be s x).take j) ++ [.int .u8 y]) := by
        rw [Hid, Pl.be_take_succ s x j hjs, ← List.append_assoc, bv_snoc, hyv, show s - 1 - j = q by omega]
      rw [hq]
      have HQ := Lib.hid hq
      have hown2 := Lib.hid (HO.out.alloc (.cells #[.int .u8 y] 5))
      have hsrc2 := Lib.hid (Src.of_blk (Blk.new wr 5 [.int .u8 y]))
      have hbel2 := hbel.alloc (Nat.le_trans hbase hbel.size) (.cells #[.int .u8 y] 5)
      have hbase2 : base ≤ (wr.alloc (.cells #[.int .u8 y] 5)).heap.size := Nat.le_trans (Nat.le_trans hbase hbel.size) (by simp)
      have hroom := Lib.hid (byte_room (n := n + j) (m := 1) (by omega))
      have h63 := Lib.hid (show n + j + 1 ≤ maxLen by simp only [maxLen]; omega)
      have hone : Hid (∀ u ∈ [Value.int .u8 y], u.oneCell' = true) := by
        intro u hu
        simp at hu
        subst hu
        rfl
      have hszr := hbel.size
      clear hyv hq hbel
      go_wp2_with (at_builtin
                   refine wpList_append_ready _ rfl (.tmp 14) (.tmp 20) 25 rfl base 5 i0 (.int .u8 0) 1 1 Tryz.underlying25 hi hz0 hz1 hz2 rfl (by decide) u0 (n + j) (bv (l ++ (Pl.be s x).take j)) rfl hown2.out (some ⟨wr.heap.size, 0, none⟩) 1 1 [.int .u8 y] rfl rfl hsrc2.out hone.out (by decide) h63.out hroom.out hbase2 ?_
                   intro v3 w3 hown3 hbel3 hkeep3 hat3)
      have hF := HF.out
      have hown4 : w3.ownsRow base 5 1 v3 (n + (j + 1)) (bv (l ++ (Pl.be s x).take (j + 1))) := by rw [htk.out]; exact hown3
      refine ⟨⟨j + 1, by omega, ?_, .inl hown4, fun _ => hown4, hbel2.trans hbel3, ?_⟩, ?_⟩
      · have := HQ.out
        congr 1
        omega
      · intro k hk hne
        obtain ⟨h1, h2⟩ := hF k hk hne
        refine ⟨((hkeep3 k (by simp; omega) h2).trans (Below.heap_alloc wr _ k (by omega))).trans h1, ?_⟩
        rcases hat3 with e | e
        · rw [e]; exact h2
        · rw [e]; simp; omega
      · simp [intOf]
    · obtain rfl : j = s := by omega
      have hneg : ¬ (0 : Int) ≤ (j : Int) - 1 - j := by omega
      have HF2 := HF.out
      have ho := HO1.out hs0
      rw [List.take_of_length_le (by rw [Pl.be_length]; exact Nat.le_refl _)] at ho
      have HO2 := Lib.hid ho
      clear ho HO HO1
      go_wp2_with fail
      go_ret
      exact ⟨_, rfl, HO2.out, hbel, HF2⟩

end Go.Proofs.YtljmklohgpaopaaGreatDoor

namespace Go.Proofs.YtljmklohgpaopaaGreatDoor
open Go.RowKit

theorem run_tostr (w : World) (A : Option Addr) (l : List UInt8) (cap : Nat) (h : BytesAt w A l) :
    (convert 25 9 (.slice A l.length cap)).run Tryz.prog w = .ok (.string (tstr l)) w := by
  cases A with
  | none =>
    have : l = [] := by
      rcases h with h | ⟨_, _, e, _⟩
      · exact h
      · cases e
    subst this
    exact run_convert_bytes_nil w 25 5 Tryz.underlying25 Tryz.underlying5 0 cap 9 Tryz.underlying9
  | some a =>
    refine run_convert_bytes_back (P := Tryz.prog) w 25 9 5 a cap l Tryz.underlying25 Tryz.underlying5 Tryz.underlying9 (fun j hj => ?_)
    obtain ⟨b, off, e, hc⟩ := h.at_ j hj
    cases e
    rw [addr_add]
    exact hc

theorem tstr_beq (a b : List UInt8) : ((tstr a).toList == (tstr b).toList) = (a == b) := by
  rw [ByteArray.toList_eq, ByteArray.toList_eq, tstr_list, tstr_list]

end Go.Proofs.YtljmklohgpaopaaGreatDoor

namespace Go.Proofs.YtljmklohgpaopaaGreatDoor
open Go.RowKit

end Go.Proofs.YtljmklohgpaopaaGreatDoor

namespace Go.Proofs.YtljmklohgpaopaaGreatDoor
open Go.RowKit

namespace Pl
end Pl

end Go.Proofs.YtljmklohgpaopaaGreatDoor

namespace Go.Proofs.YtljmklohgpaopaaGreatDoor
open Go.RowKit

end Go.Proofs.YtljmklohgpaopaaGreatDoor

namespace Go.Proofs.YtljmklohgpaopaaGreatDoor
open Go.RowKit

theorem run_str_mid (w : World) (l : List UInt8) (i j : Int) (a n : Nat) (hi : i = a) (hj : j = a + n) (hn : a + n ≤ l.length) :
    (Instr.slice 9 (.string (tstr l)) (some (.int .i64 i)) (some (.int .i64 j)) none).run Tryz.prog w = .ok (.string (tstr ((l.drop a).take n))) w := by
  subst hi hj
  rw [run_slice_string_if w 9 (tstr l) .i64 .i64 a (a + n) Tryz.underlying9, if_pos ⟨by omega, by rw [tstr_size]; omega⟩, if_pos ⟨by omega, by omega⟩]
  have : (tstr l).extract (a : Int).toNat ((a : Int) + n).toNat = tstr ((l.drop a).take n) := by
    rw [Int.toNat_natCast, show ((a : Int) + n).toNat = a + n by omega]
    have h : ((tstr l).extract a (a + n)).data = (tstr ((l.drop a).take n)).data := by
      apply Array.toList_inj.1
      simp [tstr_list, tstr, List.drop_take]
    cases h1 : (tstr l).extract a (a + n); cases h2 : tstr ((l.drop a).take n); rw [h1, h2] at h; simpa using h
  rw [this]

theorem zeros_at (w : World) (n : Nat) : BytesAt (w.alloc (.cells (zrow n).toArray 5)) (some ⟨w.heap.size, 0, none⟩) (List.replicate n 0) := by
  refine Src.bytes ?_
  have h : bv (List.replicate n 0) = zrow n := by simp [bv, zrow]
  rw [h]
  exact Src.of_blk (Blk.new _ _ _)
end Go.Proofs.YtljmklohgpaopaaGreatDoor

namespace Go.Proofs.YtljmklohgpaopaaGreatDoor
open Go.RowKit

theorem sectors_any (g : Nat) (v : Value) (d : Pl.Dk) (rd : Int) (w : World) (h : DiskAt w g v d rd) :
    Calls Tryz.prog 49 #[.pointer (some ⟨g, 0, none⟩)] w fun e w' => e = .returned (.int .i64 (d.secs.length : Nat)) ∧ w = w' := by
  obtain ⟨wr, sy, hb⟩ := h.blk
  obtain ⟨A, cap, rfl, _⟩ := own_src h.own
  obtain ⟨c0, c1, c2, c3, c4, f0, f1, f2, f3, f4⟩ := facts5 hb
  clear h hb
  go_enter Tryz.func49, Tryz.ntmps49
  go_wp2_with fail
  go_ret
  exact ⟨rfl, rfl⟩

theorem dead_any (g : Nat) (v : Value) (d : Pl.Dk) (rd : Int) (w : World) (h : DiskAt w g v d rd) :
    Calls Tryz.prog 83 #[.pointer (some ⟨g, 0, none⟩)] w fun e w' => e = .returned (.bool (d.life == 0)) ∧ w = w' := by
  obtain ⟨wr, sy, hb⟩ := h.blk
  obtain ⟨c0, c1, c2, c3, c4, f0, f1, f2, f3, f4⟩ := facts5 hb
  clear h hb
  go_enter Tryz.func83, Tryz.ntmps83
  go_wp2_with fail
  go_ret
  exact ⟨rfl, rfl⟩

theorem changes_any (g : Nat) (v : Value) (d : Pl.Dk) (rd : Int) (w : World) (h : DiskAt w g v d rd) :
    Calls Tryz.prog 158 #[.pointer (some ⟨g, 0, none⟩)] w fun e w' => e = .returned (.bool d.alive) ∧ DiskAt w' g v d.tick rd ∧ Only (· = g) w w' := by
  obtain ⟨wr, sy, hb⟩ := h.blk
  obtain ⟨c0, c1, c2, c3, c4, f0, f1, f2, f3, f4⟩ := facts5 hb
  obtain ⟨secs, life⟩ := d
  have hlf := h.life
  simp only at hlf c1 hb
  have H := Lib.hid h
  have HB := Lib.hid hb
  clear h hb
  by_cases h0 : life = 0
  · subst h0
    go_enter Tryz.func158, Tryz.ntmps158
    go_wp2_with fail
    go_ret
    exact ⟨rfl, H.out, Only.refl _ _⟩
  · have q0 : (life == 0) = false := by simp [h0]
    by_cases h1 : 0 < life
    · have ht : Hid (Pl.Dk.tick ⟨secs, life⟩ = ⟨secs, life - 1⟩) := by rw [Hid]; unfold Pl.Dk.tick; rw [if_pos h1]
      have hw : IntKind.i64.wrap (life - 1) = life - 1 := IntWalk.i64_in _ (by omega)
      have hd := Only.setCell (Only.refl (· = g) w) (p := ⟨g, 1, none⟩) (.inl rfl) (.int .i64 (life - 1))
      have HD := Lib.hid hd
      have hal : Hid (Pl.Dk.alive ⟨secs, life⟩ = decide (0 < life - 1)) := by
        rw [Hid]; unfold Pl.Dk.alive
        by_cases h2 : 0 < life - 1
        · rw [decide_eq_true h2]; simp; omega
        · rw [decide_eq_false h2]; simp; omega
      have HL := Lib.hid hlf
      clear hd hw h0
      go_enter Tryz.func158, Tryz.ntmps158
      go_wp2_with fail
      go_ret
      rw [hal.out, ht.out]
      refine ⟨?_, H.out.ofHead HD.out _ _ wr sy (by have := HL.out; omega) (HB.out.set_ 1 _), HD.out⟩
      simp
      try omega
    · have ht : Hid (Pl.Dk.tick ⟨secs, life⟩ = ⟨secs, life⟩) := by rw [Hid]; unfold Pl.Dk.tick; rw [if_neg h1]
      have hal : Hid (Pl.Dk.alive ⟨secs, life⟩ = true) := by rw [Hid]; unfold Pl.Dk.alive; simp; omega
      clear h0
      go_enter Tryz.func158, Tryz.ntmps158
      go_wp2_with fail
      go_ret
      rw [hal.out, ht.out]
      exact ⟨rfl, H.out, Only.refl _ _⟩

/-- What a read brings: nothing, if the disk is dead or the sector broken. -/
def readOf (d : Pl.Dk) (i : Nat) : Option (List UInt8) := if d.life = 0 then none else d.look i
set_option maxHeartbeats 1000000 in
theorem read_any (g : Nat) (v : Value) (d : Pl.Dk) (rd : Int) (i : Nat) (w : World) (h : DiskAt w g v d rd) (hi : i < d.secs.length) :
    Calls Tryz.prog 131 #[.pointer (some ⟨g, 0, none⟩), .int .i64 (i : Nat)] w fun e w' => e = .returned (.tuple #[.string (tstr ((readOf d i).getD [])), .bool (readOf d i).isSome]) ∧
      (∃ rd', DiskAt w' g v d rd' ∧ (0 ≤ rd → rd < 4611686018427387904 → 0 ≤ rd' ∧ rd' ≤ rd + 1)) ∧ Only (· = g) w w' := by
  obtain ⟨wr, sy, hb⟩ := h.blk
  obtain ⟨s, hs⟩ : ∃ s, d.secs[i]? = some s := ⟨_, List.getElem?_eq_getElem hi⟩
  obtain ⟨b, cap, rfl, hbg, s0, s1, s2, s3, s4, sf⟩ := h.sec hs
  obtain ⟨c0, c1, c2, c3, c4, f0, f1, f2, f3, f4⟩ := facts5 hb
  obtain ⟨secs, life⟩ := d
  have hmost := h.most
  simp only at c1 hb hi hs c0 hmost
  have H := Lib.hid h
  have HB := Lib.hid hb
  have HS := Lib.hid hs
  clear h hb hs s1 s3 s4
  obtain ⟨n, hn⟩ : ∃ n, secs.length = n := ⟨_, rfl⟩
  rw [hn] at hi hmost c0
  have HN := Lib.hid hn
  have hni : ¬ (n : Int) ≤ i := by omega
  clear hn
  by_cases h0 : life = 0
  · subst h0
    go_enter Tryz.func131, Tryz.ntmps131
    go_wp2_with fail
    go_ret2
    exact ⟨by simp [readOf]; rfl, ⟨rd, H.out, fun h1 h2 => ⟨h1, by omega⟩⟩, Only.refl _ _⟩
  · have q0 : (life == 0) = false := by simp [h0]
    have HL := Lib.hid h0
    have hro : Hid (readOf ⟨secs, life⟩ i = if s.broken then none else some s.now) := by
      rw [Hid]; unfold readOf Pl.Dk.look; rw [if_neg h0]; simp only [HS.out]
    obtain ⟨rd', hrd, hrd2⟩ : ∃ rd', IntKind.i64.wrap (rd + 1) = rd' ∧ (0 ≤ rd → rd < 4611686018427387904 → 0 ≤ rd' ∧ rd' ≤ rd + 1) := ⟨_, rfl, fun h1 h2 => by rw [IntWalk.i64_in _ (by omega)]; omega⟩
    have HRD := Lib.hid hrd2
    have hd := fun x => Only.setCell (Only.refl (· = g) w) (p := ⟨g, 2, none⟩) (.inl rfl) (.int .i64 x)
    have HD := Lib.hid hd
    clear hd h0 hrd2
    rw [hro.out]
    cases hbr : s.broken
    all_goals
      rw [hbr] at s2
      clear hbr
      go_enter Tryz.func131, Tryz.ntmps131
      go_wp2_with fail
      go_ret2
      refine ⟨rfl, ⟨_, H.out.ofHead (HD.out _) _ _ wr sy H.out.life (HB.out.set_ 2 _), ?_⟩, HD.out _⟩
      exact fun h1 h2 => HRD.out h1 h2

/-- A text that is laid into a sector. -/
theorem put_sized (s : Pl.Sec) (t : List UInt8) (ht : t.length ≤ 256) (hs : s.safe.length = 256) : (s.put t).now.length = 256 ∧ (s.put t).safe.length = 256 := by
  refine ⟨?_, hs⟩
  simp [Pl.Sec.put, Pl.zeros]
  omega
theorem on_wr (l : List Pl.Sec) (i : Nat) (s : Pl.Sec) (t : List UInt8) (hs : l[i]? = some s) : Pl.Ch.on (.wr i t) l = l.set i (s.put t) := by
  simp only [Pl.Ch.on]
  apply List.ext_getElem?
  intro k
  rw [List.getElem?_modify, List.getElem?_set]
  by_cases h : i = k
  · subst h
    have hi : i < l.length := (List.getElem?_eq_some_iff.1 hs).1
    have he := (List.getElem?_eq_some_iff.1 hs).2
    simp [hi, he]
  · simp [h]
set_option maxHeartbeats 2000000 in
set_option maxRecDepth 100000 in
theorem dwrite_any (g : Nat) (v : Value) (d : Pl.Dk) (rd : Int) (i : Nat) (t : List UInt8) (w : World) (h : DiskAt w g v d rd) (hi : i < d.secs.length) (ht : t.length ≤ 256) :
    Calls Tryz.prog 125 #[.pointer (some ⟨g, 0, none⟩), .int .i64 (i : Nat), .string (tstr t)] w fun e w' => e = .returned (.bool d.alive) ∧ DiskAt w' g v (d.change (.wr i t)) rd ∧ Only (dF g v) w w' := by
  have hmost := h.most
  have htz := tstr_size t
  obtain ⟨z, hz⟩ : ∃ z, tstr t = z := ⟨_, rfl⟩
  have HZ := Lib.hid hz
  rw [hz] at htz ⊢
  have HH := Lib.hid h
  obtain ⟨n, hn⟩ : ∃ n, d.secs.length = n := ⟨_, rfl⟩
  rw [hn] at hi hmost
  have HN := Lib.hid hn
  have hni : ¬ (n : Int) ≤ i := by omega
  have htz' : ¬ (256 : Int) < (z.size : Int) := by omega
  have q1 : decide ((i : Int) < 0) = false := decide_eq_false (by omega)
  have q2 : decide ((n : Int) ≤ i) = false := decide_eq_false hni
  have q2' : decide (n ≤ i) = false := decide_eq_false (by omega)
  have q3 : decide ((256 : Int) < (z.size : Int)) = false := decide_eq_false htz'
  have HTZ := Lib.hid htz
  have HT := Lib.hid ht
  clear hz hn h htz
  go_enter Tryz.func125, Tryz.ntmps125
  go_wp2_with fail
  refine (changes_any g v d rd w HH.out).mono ?_
  rintro e w1 ⟨rfl, h1, ho1⟩
  have H1 := Lib.hid h1
  have O1 := Lib.hid ho1
  have htk : d.tick.secs = d.secs := rfl
  obtain ⟨s, hs⟩ : ∃ s, d.tick.secs[i]? = some s := ⟨_, List.getElem?_eq_getElem (by rw [htk, HN.out]; exact hi)⟩
  obtain ⟨b, cap, rfl, hbg, s0, s1, s2, s3, s4, sf⟩ := h1.sec hs
  obtain ⟨wr, sy, hb⟩ := h1.blk
  obtain ⟨c0, c1, c2, c3, c4, f0, f1, f2, f3, f4⟩ := facts5 hb
  have hlen : d.tick.secs.length = n := by rw [htk]; exact HN.out
  rw [hlen] at c0
  have HB := Lib.hid hb
  have HS := Lib.hid hs
  have HLEN := Lib.hid hlen
  have hk : ∀ (zs : Array Value) (X : Value), ((w1.setCell ⟨g, 3, none⟩ X).alloc (.cells zs 5)).ownsRow 0 104 5 (.slice (some ⟨b, 0, none⟩) n cap) n (secsCells d.tick.secs) := by
    intro zs X
    have := Only.own (((Only.refl (· = g) w1).setCell (p := ⟨g, 3, none⟩) (.inl rfl) X).alloc (.cells zs 5)) h1.own (fun k hk e => h1.far (by rw [hk, e]))
    rwa [hlen] at this
  have hk1 : ∀ (zs : Array Value) (X : Value), DiskAt ((w1.setCell ⟨g, 3, none⟩ X).alloc (.cells zs 5)) g (.slice (some ⟨b, 0, none⟩) d.tick.secs.length cap) d.tick rd ∨ True := fun _ _ => .inr trivial
  have HK := Lib.hid hk
  clear h1 ho1 hb hs htk hlen s0 s1 s2 s3 s4 sf hk hk1
  cases hal : d.alive
  · have hch : d.change (.wr i t) = d.tick := by unfold Pl.Dk.change; rw [hal]; rfl
    have HCH := Lib.hid hch
    have HAL := Lib.hid hal
    clear hal hch
    go_wp2_with fail
    go_ret
    rw [HCH.out, HAL.out]
    exact ⟨rfl, H1.out, O1.out.mono (fun _ _ h => .inl h)⟩
  · have hch : d.change (.wr i t) = ⟨d.tick.secs.set i (s.put t), d.tick.life⟩ := by unfold Pl.Dk.change; rw [hal, if_pos rfl, ← on_wr _ i s t HS.out]; rfl
    have HCH := Lib.hid hch
    have HAL := Lib.hid hal
    have hmk := make_bytes (256 - (z.size : Int)) (256 - t.length) (by have := HTZ.out; omega) (by omega)
    have hcv : ∀ X, (convert 25 9 (.slice (some ⟨w1.heap.size, 0, none⟩) (256 - t.length : Nat) (256 - t.length : Nat))).run Tryz.prog ((w1.setCell ⟨g, 3, none⟩ X).alloc (.cells (zrow (256 - t.length)).toArray 5)) =
        .ok (.string (tstr (Pl.zeros (256 - t.length)))) ((w1.setCell ⟨g, 3, none⟩ X).alloc (.cells (zrow (256 - t.length)).toArray 5)) := by
      intro X
      have := run_tostr ((w1.setCell ⟨g, 3, none⟩ X).alloc (.cells (zrow (256 - t.length)).toArray 5)) (some ⟨(w1.setCell ⟨g, 3, none⟩ X).heap.size, 0, none⟩) (List.replicate (256 - t.length) 0) (256 - t.length) (zeros_at _ _)
      rw [List.length_replicate, show (w1.setCell ⟨g, 3, none⟩ X).heap.size = w1.heap.size by simp [World.setCell]] at this
      exact this
    have hcat := fun w => run_cat w t (Pl.zeros (256 - t.length)) (by simp [Pl.zeros]; omega)
    obtain ⟨zs, hzs⟩ : ∃ zs, (zrow (256 - t.length)).toArray = zs := ⟨_, rfl⟩
    obtain ⟨zt, hzt⟩ : ∃ zt, tstr (Pl.zeros (256 - t.length)) = zt := ⟨_, rfl⟩
    obtain ⟨zz, hzz⟩ : ∃ zz, tstr (t ++ Pl.zeros (256 - t.length)) = zz := ⟨_, rfl⟩
    have HZZ := Lib.hid hzz
    obtain ⟨m, hm⟩ : ∃ m, 256 - t.length = m := ⟨_, rfl⟩
    rw [hzs] at hmk hcv
    rw [hzt] at hcv hcat
    rw [hzz, HZ.out] at hcat
    rw [hm] at hmk hcv
    have k0 := fun X => (own_sec (HK.out zs X) HLEN.out HS.out).1
    have k2 := fun X => (own_sec (HK.out zs X) HLEN.out HS.out).2.2.1
    have k4 := fun X => (own_sec (HK.out zs X) HLEN.out HS.out).2.2.2.2.1
    have kf := fun X => (own_sec (HK.out zs X) HLEN.out HS.out).2.2.2.2.2
    clear hal hch hzs hzt hzz hm
    go_wp2_with fail
    go_ret
    rw [HCH.out, HAL.out]
    have hW : DiskAt ((w1.setCell ⟨g, 3, none⟩ (.int .i64 (wrap64 (wr + 1)))).alloc (.cells zs 5)) g (.slice (some ⟨b, 0, none⟩) d.tick.secs.length cap) d.tick rd :=
      (H1.out.ofHead ((Only.refl (· = g) w1).setCell (p := ⟨g, 3, none⟩) (.inl rfl) _) d.tick.life rd _ sy H1.out.life (HB.out.set_ 3 _)).below ((Below.refl _ _).alloc (Nat.le_refl _) _)
    have hO : Only (dF g (.slice (some ⟨b, 0, none⟩) d.tick.secs.length cap)) w ((w1.setCell ⟨g, 3, none⟩ (.int .i64 (wrap64 (wr + 1)))).alloc (.cells zs 5)) :=
      ((O1.out.mono (fun _ _ h => .inl h)).setCell (p := ⟨g, 3, none⟩) (.inl (.inl rfl)) _).alloc _
    obtain ⟨r1, r2⟩ := hW.sets HS.out (s.put t) (put_sized s t HT.out (H1.out.sized s (List.mem_of_getElem? HS.out)).2) [(0, .string zz), (2, .bool false), (4, .bool true)] (by simp) (by rw [← HZZ.out]; rfl)
    have hl : (Value.slice (some ⟨b, 0, none⟩) (d.tick.secs.set i (s.put t)).length cap) = .slice (some ⟨b, 0, none⟩) d.tick.secs.length cap := by rw [List.length_set]
    exact ⟨rfl, r1, hO.trans r2 (fun k _ hk => .inr (by rw [hk]; rfl))⟩

theorem set_self {α : Type} {l : List α} {i : Nat} {x : α} (h : l[i]? = some x) : l.set i x = l := by
  apply List.ext_getElem?
  intro k
  rw [List.getElem?_set]
  by_cases hk : i = k
  · subst hk
    rw [if_pos rfl, if_pos (List.getElem?_eq_some_iff.1 h).1, h]
  · rw [if_neg hk]
theorem flush_sized (s : Pl.Sec) (h : s.now.length = 256 ∧ s.safe.length = 256) : s.flush.now.length = 256 ∧ s.flush.safe.length = 256 := by
  unfold Pl.Sec.flush
  split
  · exact ⟨h.1, h.1⟩
  · exact h
theorem flush_step (l : List Pl.Sec) (k : Nat) (s : Pl.Sec) (hs : l[k]? = some s) : ((l.take k).map Pl.Sec.flush ++ l.drop k)[k]? = some s ∧ ((l.take k).map Pl.Sec.flush ++ l.drop k).set k s.flush = (l.take (k + 1)).map Pl.Sec.flush ++ l.drop (k + 1) := by
  have hk : k < l.length := (List.getElem?_eq_some_iff.1 hs).1
  have he : l[k] = s := (List.getElem?_eq_some_iff.1 hs).2
  have hl : ((l.take k).map Pl.Sec.flush).length = k := by simp; omega
  constructor
  · rw [List.getElem?_append_right (by omega), hl, Nat.sub_self, List.drop_eq_getElem_cons hk, he]; rfl
  · rw [List.set_append_right _ _ (by omega), hl, Nat.sub_self, List.drop_eq_getElem_cons hk, he, List.set_cons_zero, List.take_succ_eq_append_getElem hk, he]
    simp

set_option maxHeartbeats 2000000 in
set_option maxRecDepth 100000 in
theorem dsync_any (g : Nat) (v : Value) (d : Pl.Dk) (rd : Int) (w : World) (h : DiskAt w g v d rd) :
    Calls Tryz.prog 126 #[.pointer (some ⟨g, 0, none⟩)] w fun e w' => e = .returned (.bool d.alive) ∧ DiskAt w' g v (d.change .sy) rd ∧ Only (dF g v) w w' := by
  have hmost := h.most
  have HH := Lib.hid h
  obtain ⟨n, hn⟩ : ∃ n, d.secs.length = n := ⟨_, rfl⟩
  rw [hn] at hmost
  have HN := Lib.hid hn
  clear hn h
  go_enter Tryz.func126, Tryz.ntmps126
  go_wp2_with fail
  refine (changes_any g v d rd w HH.out).mono ?_
  rintro e w1 ⟨rfl, h1, ho1⟩
  have H1 := Lib.hid h1
  have O1 := Lib.hid ho1
  obtain ⟨wr, sy, hb⟩ := h1.blk
  obtain ⟨A, cap, rfl, _, _, hAown⟩ := own_src h1.own
  have hlen : d.tick.secs.length = n := HN.out
  rw [hlen] at hb
  obtain ⟨c0, c1, c2, c3, c4, f0, f1, f2, f3, f4⟩ := facts5 hb
  have HB := Lib.hid hb
  have HLEN := Lib.hid hlen
  have htk : Hid (d.tick.secs = d.secs) := rfl
  have HA := Lib.hid hAown
  clear h1 ho1 hb hlen hAown
  cases hal : d.alive
  · have hch : d.change .sy = d.tick := by unfold Pl.Dk.change; rw [hal]; rfl
    have HCH := Lib.hid hch
    have HAL := Lib.hid hal
    clear hal hch
    go_wp2_with fail
    go_ret
    rw [HCH.out, HAL.out]
    exact ⟨rfl, H1.out, O1.out.mono (fun _ _ h => .inl h)⟩
  · have hch : d.change .sy = ⟨d.secs.map Pl.Sec.flush, d.tick.life⟩ := by unfold Pl.Dk.change; rw [hal, if_pos rfl]; rfl
    have HCH := Lib.hid hch
    have HAL := Lib.hid hal
    have hd2 : ∀ X : Int, DiskAt (w1.setCell ⟨g, 4, none⟩ (.int .i64 X)) g (.slice A d.tick.secs.length cap) ⟨d.secs, d.tick.life⟩ rd := fun X =>
      H1.out.ofHead ((Only.refl (· = g) w1).setCell (p := ⟨g, 4, none⟩) (.inl rfl) _) d.tick.life rd wr X H1.out.life (by rw [HLEN.out]; exact HB.out.set_ 4 _)
    have HD2 := Lib.hid hd2
    obtain ⟨lf, hlf⟩ : ∃ lf, d.tick.life = lf := ⟨_, rfl⟩
    have HLF := Lib.hid hlf
    clear hal hch hd2 hlf
    go_wp2_with fail
    go_loopw [4] (fun i W => ∃ k : Nat, k ≤ n ∧ i = .int .i64 (k : Int) ∧ Hid (DiskAt W g (.slice A d.tick.secs.length cap) ⟨(d.secs.take k).map Pl.Sec.flush ++ d.secs.drop k, lf⟩ rd) ∧ Hid (Only (dF g (.slice A d.tick.secs.length cap)) w W)) (fun i _ => n - (intOf i).toNat)
    case atStart => exact ⟨0, Nat.zero_le _, rfl, by rw [← HLF.out]; exact HD2.out _, (O1.out.mono (fun _ _ h => .inl h)).setCell (p := ⟨g, 4, none⟩) (.inl (.inl rfl)) _⟩
    case round =>
      obtain ⟨k, hk, rfl, HD, HO⟩ := hrel
      have hlk : ((d.secs.take k).map Pl.Sec.flush ++ d.secs.drop k).length = n := by rw [List.length_append, List.length_map, List.length_take, List.length_drop, HN.out]; omega
      have HLK := Lib.hid hlk
      clear hlk
      obtain ⟨wr', sy', hb'⟩ := HD.out.blk
      rw [HLEN.out] at hb'
      obtain ⟨e0, e1, e2, e3, e4, g0, g1, g2, g3, g4⟩ := facts5 hb'
      clear hb' e1 e2 e3 e4 g0 g1 g2 g3 g4
      by_cases hkn : k < n
      · obtain ⟨s, hs⟩ : ∃ s, d.secs[k]? = some s := ⟨_, List.getElem?_eq_getElem (by rw [HN.out]; exact hkn)⟩
        obtain ⟨hs1, hs2⟩ := flush_step d.secs k s hs
        obtain ⟨b, cap', hv, hbg, s0, s1, s2, s3, s4, sf⟩ := HD.out.sec hs1
        injection hv with hA1 hA2 hA3
        subst hA1
        subst hA3
        have HS1 := Lib.hid hs1
        have HS2 := Lib.hid hs2
        have hsz := Lib.hid (HH.out.sized s (List.mem_of_getElem? hs))
        clear hs hs1 hs2 hA2 s2
        cases hfr : s.fresh
        · rw [hfr] at s4
          have hfl : s.flush = s := by unfold Pl.Sec.flush; rw [hfr]; rfl
          have HFL := Lib.hid hfl
          clear hfl hfr
          go_wp2_with fail
          refine ⟨⟨k + 1, by omega, by go_num, ?_, HO.out⟩, by simp [intOf]; omega⟩
          rw [Hid, ← HS2.out, HFL.out, set_self HS1.out]
          exact HD.out
        · rw [hfr] at s4
          have hfl : s.flush = ⟨s.now, s.now, s.broken, false, false⟩ := by unfold Pl.Sec.flush; rw [hfr, if_pos rfl]
          have HFL := Lib.hid hfl
          clear hfl hfr
          go_wp2_with fail
          have HD3 := HD.out
          have hln : d.tick.secs.length = ((d.secs.take k).map Pl.Sec.flush ++ d.secs.drop k).length := by rw [HLK.out, HLEN.out]
          rw [hln] at HD3
          have he : [(1, Value.string (tstr s.now)), (3, Value.bool false), (4, Value.bool false)].foldl (fun xs p => xs.set p.1 p.2) (secCells s) = secCells s.flush := by rw [HFL.out]; rfl
          obtain ⟨r1, r2⟩ := DiskAt.sets (d := ⟨(d.secs.take k).map Pl.Sec.flush ++ d.secs.drop k, lf⟩) (i := k) (s := s) HD3 HS1.out s.flush (flush_sized s hsz.out) _ (by simp) he
          refine ⟨⟨k + 1, by omega, by go_num, ?_, HO.out.trans r2 (fun k _ hk => .inr (by rw [hk]; rfl))⟩, by simp [intOf]; omega⟩
          rw [HS2.out, ← hln] at r1
          exact r1
      · obtain rfl : k = n := by omega
        go_wp2_with fail
        go_ret
        rw [HCH.out, HAL.out, HLF.out]
        refine ⟨rfl, ?_, HO.out⟩
        have := HD.out
        rw [← HN.out, List.take_length, List.drop_length, List.append_nil] at this
        exact this
end Go.Proofs.YtljmklohgpaopaaGreatDoor

namespace Go.Proofs.YtljmklohgpaopaaGreatDoor
open Go.RowKit

def kindE (k : Nat) : Value := .iface 26 (.int .i64 (k : Int))
end Go.Proofs.YtljmklohgpaopaaGreatDoor
