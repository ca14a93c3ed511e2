/- The walks of the harness's lentAll and stayAll. -/
import Derived.Test.YtljmklohgpaopaaDoorTreeZ
namespace Go.Proofs.YtljmklohgpaopaaDoor
open Go.RowKit

def lentV (g : Nat) (s : ByteArray) : Value := .slice (some ⟨g, 0, none⟩) s.size (s.size + 2)
def lc (gs : List Nat) (ss : List ByteArray) : List Value := List.zipWith lentV gs ss
theorem lc_len {gs : List Nat} {ss : List ByteArray} (h : gs.length = ss.length) : (lc gs ss).length = ss.length := by simp [lc, h]
theorem lc_snoc {gs : List Nat} {ss : List ByteArray} (h : gs.length = ss.length) (g : Nat) (s : ByteArray) : lc (gs ++ [g]) (ss ++ [s]) = lc gs ss ++ [lentV g s] := by
  simp [lc, List.zipWith_append h]
theorem lc_get {gs : List Nat} {ss : List ByteArray} {k g : Nat} {s : ByteArray} (hg : gs[k]? = some g) (hs : ss[k]? = some s) : (lc gs ss)[k]? = some (lentV g s) := by
  simp [lc, List.getElem?_zipWith, hg, hs]

/-- v is a row, of the call's own, of slices that 'lent' made. -/
structure Lent (w : World) (base : Nat) (v : Value) (gs : List Nat) (ss : List ByteArray) : Prop where
  len : gs.length = ss.length
  own : w.ownsRow base 23 1 v ss.length (lc gs ss)
  blk : ∀ (k g : Nat) (s : ByteArray), gs[k]? = some g → ss[k]? = some s → Blk w g 5 (lentRow s.data.toList)
  nodup : gs.Nodup
  far : ∀ g ∈ gs, base ≤ g ∧ v.ownBlock ≠ some g

theorem Lent.nil (w : World) (base : Nat) : Lent w base (.slice none 0 0) [] [] :=
  ⟨rfl, World.ownsRow_nil _ _ _ _, fun k g s h => by simp at h, List.nodup_nil, fun g h => by simp at h⟩
theorem Lent.lt {w : World} {base : Nat} {v : Value} {gs : List Nat} {ss : List ByteArray} (h : Lent w base v gs ss) : ∀ g ∈ gs, g < w.heap.size := by
  intro g hg
  obtain ⟨k, hk⟩ := List.mem_iff_getElem?.1 hg
  have hkl : k < ss.length := by
    rw [← h.len]
    rcases Nat.lt_or_ge k gs.length with h' | h'
    · exact h'
    · rw [List.getElem?_eq_none h'] at hk; cases hk
  exact (h.blk k g _ hk (List.getElem?_eq_getElem hkl)).lt
theorem Lent.below {w w' : World} {base : Nat} {v : Value} {gs : List Nat} {ss : List ByteArray} (h : Lent w base v gs ss) (hb : Below w.heap.size w w') : Lent w' base v gs ss :=
  ⟨h.len, own_below h.own hb, fun k g s h1 h2 => (h.blk k g s h1 h2).below hb (h.blk k g s h1 h2).lt, h.nodup, h.far⟩
/-- One more. -/
theorem Lent.snoc {w w3 : World} {base : Nat} {v v3 : Value} {gs : List Nat} {ss : List ByteArray} {s : ByteArray} {o : Obj} (h : Lent w base v gs ss) (hbase : base ≤ w.heap.size)
    (hown : w3.ownsRow base 23 1 v3 (ss.length + 1) (lc gs ss ++ [lentV w.heap.size s]))
    (hgrow : ((w.alloc (.cells (lentRow s.data.toList).toArray 5)).alloc o).grownBy w3 v.ownBlock)
    (hat : v3.ownBlock = v.ownBlock ∨ v3.ownBlock = some ((w.alloc (.cells (lentRow s.data.toList).toArray 5)).alloc o).heap.size) :
    Lent w3 base v3 (gs ++ [w.heap.size]) (ss ++ [s]) := by
  have hlt := h.lt
  have hvne : v.ownBlock ≠ some w.heap.size := fun e => by have := (h.own.lt _ e).2; omega
  have hw := ((Below.refl w.heap.size w).alloc (Nat.le_refl _) (.cells (lentRow s.data.toList).toArray 5)).alloc (by simp) o
  refine ⟨by simp [h.len], by rw [List.length_append, lc_snoc h.len]; exact hown, ?_, ?_, ?_⟩
  · intro k g u hg hu
    rw [List.getElem?_append] at hg hu
    rw [h.len] at hg
    split at hg
    · rename_i hk
      rw [if_pos hk] at hu
      have hb := h.blk k g u hg hu
      have hmem := List.mem_of_getElem? hg
      exact (hb.below hw (hlt g hmem)).grown hgrow (fun e => (h.far g hmem).2 e.symm)
    · rename_i hk
      rw [if_neg hk] at hu
      have h1 : k - ss.length = 0 := by
        rcases Nat.eq_zero_or_pos (k - ss.length) with h0 | h0
        · exact h0
        · rw [List.getElem?_eq_none (by simp; omega)] at hg; cases hg
      rw [h1] at hg hu
      simp only [List.getElem?_cons_zero, Option.some.injEq] at hg hu
      subst hg hu
      exact ((Blk.new w 5 (lentRow s.data.toList)).alloc o).grown hgrow (fun e => hvne e.symm)
  · rw [List.nodup_append]
    refine ⟨h.nodup, by simp, fun a ha b hb => ?_⟩
    simp at hb
    have := hlt a ha
    omega
  · intro g hg
    rcases List.mem_append.1 hg with hg | hg
    · refine ⟨(h.far g hg).1, ?_⟩
      rcases hat with e | e
      · rw [e]; exact (h.far g hg).2
      · rw [e]
        have := hlt g hg
        simp
        omega
    · simp at hg
      subst hg
      refine ⟨hbase, ?_⟩
      rcases hat with e | e
      · rw [e]; exact hvne
      · rw [e]
        simp
        omega

theorem Tryd.infoSlice : (Tryd.prog.info? 23).map (fun i => (i.zero, i.size, i.bytes)) = some (some (.slice none 0 0), 1, 24) := by kernel_rfl

theorem slice_room {n m : Nat} (h : n + m ≤ 8796093022208) : ∀ old, old < n + m → Builtin.nextslicecap (n + m) old * 24 ≤ 281474976710656 := by
  intro old ho
  have := nextslicecap_le54 ho
  omega

theorem own_addr {w : World} {base : Nat} {e : TypeId} {size n : Nat} {v : Value} {xs : List Value} (h : w.ownsRow base e size v n xs) (hn : 0 < n) : ∃ g cap, v = .slice (some ⟨g, 0, none⟩) n cap ∧ base ≤ g ∧ n ≤ cap := by
  rcases h.2 with ⟨_, h0⟩ | ⟨g, cap, cur, hv, hb, _, hc, _⟩
  · omega
  · exact ⟨g, cap, hv, hb, hc⟩
theorem own_at {w : World} {base g cap : Nat} {e : TypeId} {size n : Nat} {xs : List Value} (h : w.ownsRow base e size (.slice (some ⟨g, 0, none⟩) n cap) n xs) (j : Nat) (u : Value) (hu : xs[j]? = some u) : w.cell? ⟨g, j, none⟩ = some u := by
  have := h.cells (g := g) rfl j u hu
  rwa [addr_add, Nat.zero_add] at this

end Go.Proofs.YtljmklohgpaopaaDoor
