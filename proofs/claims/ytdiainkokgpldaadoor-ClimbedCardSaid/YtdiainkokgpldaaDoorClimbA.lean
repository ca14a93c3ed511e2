/- What the law Climbed wants: []byte(s), rows of such; pick, fine. -/
import Derived.Test.YtdiainkokgpldaaDoorRootsLaw
namespace Go.Proofs.YtdiainkokgpldaaDoor
open Go.RowKit

/-- What '[]byte(s)' lays. -/
def convObj (s : ByteArray) (cap : Nat) : Obj := .cells (bytesRow s cap) 5 ((bytesRow s cap).size, (bytesRow s cap).size + 1)
theorem run_conv (w : World) (s : ByteArray) : (convert 9 37 (.string s)).run Tryd.prog w = .ok (.slice (some ⟨w.heap.size, 0, none⟩) s.size (grownCap w s.size 0 5)) (w.drew.alloc (convObj s (grownCap w s.size 0 5))) :=
  run_bytes_of_string w 9 37 5 s Tryd.underlying9 Tryd.underlying37 Tryd.underlying5
theorem conv_bytes {w : World} {g cap : Nat} {s : ByteArray} (h : w.heap[g]? = some (convObj s cap)) : BytesAt w (some ⟨g, 0, none⟩) s.data.toList := by
  refine .inr ⟨g, 0, rfl, fun i hi => ?_⟩
  have hi' : i < s.data.size := by simpa using hi
  rw [Nat.zero_add, cell_of_row w g i _ _ _ h, bytesRow_at s cap i hi']
  simp

theorem be4_inj {a b : Nat} (ha : a < 4294967296) (hb : b < 4294967296) (h : Pl.be 4 a = Pl.be 4 b) : a = b := by
  have e : ∀ n, Pl.be 4 n = Pl.hashText n := fun _ => rfl
  rw [e, e, Pl.hashText_eq, Pl.hashText_eq] at h
  simp only [List.cons.injEq, and_true] at h
  have f : ∀ x y : Nat, UInt8.ofNat x = UInt8.ofNat y → x % 256 = y % 256 := fun x y h => by
    have := congrArg UInt8.toNat h
    simpa using this
  have h1 := f _ _ h.1
  have h2 := f _ _ h.2.1
  have h3 := f _ _ h.2.2.1
  have h4 := f _ _ h.2.2.2
  omega
theorem hstr_inj {a b : Nat} (ha : a < 4294967296) (hb : b < 4294967296) (h : hstr a = hstr b) : a = b := by
  have := congrArg (fun s : ByteArray => s.data.toList) h
  exact be4_inj ha hb this
theorem groups_ptext (ps : List Nat) (h : ∀ x ∈ ps, x < 4294967296) : Pl.groups (Pl.ptext ps) = ps := by
  induction ps with
  | nil => simp [Pl.ptext, Pl.groups]
  | cons a r ih =>
    have ha := h a (by simp)
    rw [show a :: r = [a] ++ r from rfl, Pl.ptext_append, Pl.ptext_one]
    rw [Pl.groups_long _ (by rw [List.length_append, Pl.be_length]; omega), List.drop_left' (Pl.be_length 4 a), ih (fun x hx => h x (by simp [hx]))]
    have hh : Pl.be 4 (Pl.hashOf (Pl.be 4 a ++ Pl.ptext r)) = Pl.be 4 a := by
      rw [Pl.be_hashOf, List.append_assoc, List.take_left' (Pl.be_length 4 a)]
    rw [be4_inj (Pl.hashOf_lt _) ha hh]
    rfl

/-- A row, of the call's own, of slices that '[]byte(s)' made. -/
def cv (gc : Nat × Nat) (s : ByteArray) : Value := .slice (some ⟨gc.1, 0, none⟩) s.size gc.2
def cvs (gs : List (Nat × Nat)) (ss : List ByteArray) : List Value := List.zipWith cv gs ss
theorem cvs_snoc {gs : List (Nat × Nat)} {ss : List ByteArray} (h : gs.length = ss.length) (g : Nat × Nat) (s : ByteArray) : cvs (gs ++ [g]) (ss ++ [s]) = cvs gs ss ++ [cv g s] := by
  simp [cvs, List.zipWith_append h]
theorem cvs_get {gs : List (Nat × Nat)} {ss : List ByteArray} {k : Nat} {g : Nat × Nat} {s : ByteArray} (hg : gs[k]? = some g) (hs : ss[k]? = some s) : (cvs gs ss)[k]? = some (cv g s) := by
  simp [cvs, List.getElem?_zipWith, hg, hs]
structure ConvRow (w : World) (base : Nat) (v : Value) (gs : List (Nat × Nat)) (ss : List ByteArray) : Prop where
  len : gs.length = ss.length
  own : w.ownsRow base 37 1 v ss.length (cvs gs ss)
  blk : ∀ (k : Nat) (g : Nat × Nat) (s : ByteArray), gs[k]? = some g → ss[k]? = some s → s.size ≤ g.2 ∧ w.heap[g.1]? = some (convObj s g.2)
  far : ∀ g ∈ gs, base ≤ g.1 ∧ v.ownBlock ≠ some g.1

theorem ConvRow.nil (w : World) (base : Nat) : ConvRow w base (.slice none 0 0) [] [] :=
  ⟨rfl, World.ownsRow_nil _ _ _ _, fun k g s h => by simp at h, fun g h => by simp at h⟩
theorem heap_lt {w : World} {g : Nat} {o : Obj} (h : w.heap[g]? = some o) : g < w.heap.size := by
  rcases Nat.lt_or_ge g w.heap.size with h' | h'
  · exact h'
  · rw [Array.getElem?_eq_none h'] at h; cases h
theorem ConvRow.lt {w : World} {base : Nat} {v : Value} {gs : List (Nat × Nat)} {ss : List ByteArray} (h : ConvRow w base v gs ss) : ∀ g ∈ gs, g.1 < w.heap.size := by
  intro g hg
  obtain ⟨k, hk⟩ := List.mem_iff_getElem?.1 hg
  have hkl : k < ss.length := by
    rw [← h.len]
    rcases Nat.lt_or_ge k gs.length with h' | h'
    · exact h'
    · rw [List.getElem?_eq_none h'] at hk; cases hk
  exact heap_lt (h.blk k g _ hk (List.getElem?_eq_getElem hkl)).2
theorem ConvRow.below {w w' : World} {base : Nat} {v : Value} {gs : List (Nat × Nat)} {ss : List ByteArray} (h : ConvRow w base v gs ss) (hb : Below w.heap.size w w') : ConvRow w' base v gs ss :=
  ⟨h.len, own_below h.own hb, fun k g s h1 h2 => ⟨(h.blk k g s h1 h2).1, (hb.block _ (heap_lt (h.blk k g s h1 h2).2)).trans (h.blk k g s h1 h2).2⟩, h.far⟩
theorem ConvRow.snoc {w w3 : World} {base c : Nat} {v v3 : Value} {gs : List (Nat × Nat)} {ss : List ByteArray} {s : ByteArray} {o : Obj} (h : ConvRow w base v gs ss) (hbase : base ≤ w.heap.size) (hc : s.size ≤ c)
    (hown : w3.ownsRow base 37 1 v3 (ss.length + 1) (cvs gs ss ++ [cv (w.heap.size, c) s]))
    (hgrow : ((w.alloc (convObj s c)).alloc o).grownBy w3 v.ownBlock)
    (hat : v3.ownBlock = v.ownBlock ∨ v3.ownBlock = some ((w.alloc (convObj s c)).alloc o).heap.size) :
    ConvRow w3 base v3 (gs ++ [(w.heap.size, c)]) (ss ++ [s]) := by
  have hlt := h.lt
  have hvne : v.ownBlock ≠ some w.heap.size := fun e => by have := (h.own.lt _ e).2; omega
  have hw := ((Below.refl w.heap.size w).alloc (Nat.le_refl _) (convObj s c)).alloc (by simp) o
  refine ⟨by simp [h.len], by rw [List.length_append, cvs_snoc h.len]; exact hown, ?_, ?_⟩
  · intro k g u hg hu
    rw [List.getElem?_append] at hg hu
    rw [h.len] at hg
    split at hg
    · rename_i hk
      rw [if_pos hk] at hu
      have hb := h.blk k g u hg hu
      have hmem := List.mem_of_getElem? hg
      exact ⟨hb.1, (hgrow.block g.1 (Nat.lt_of_lt_of_le (hlt g hmem) hw.size) (fun e => (h.far g hmem).2 e.symm)).trans ((hw.block g.1 (hlt g hmem)).trans hb.2)⟩
    · rename_i hk
      rw [if_neg hk] at hu
      have h1 : k - ss.length = 0 := by
        rcases Nat.eq_zero_or_pos (k - ss.length) with h0 | h0
        · exact h0
        · rw [List.getElem?_eq_none (by simp; omega)] at hg; cases hg
      rw [h1] at hg hu
      simp only [List.getElem?_cons_zero, Option.some.injEq] at hg hu
      subst hg hu
      refine ⟨hc, (hgrow.block w.heap.size (by simp; omega) (fun e => hvne e.symm)).trans ?_⟩
      exact (Below.heap_alloc (w.alloc (convObj s c)) o w.heap.size (by simp)).trans (heap_alloc_new w _)
  · intro g hg
    rcases List.mem_append.1 hg with hg | hg
    · refine ⟨(h.far g hg).1, ?_⟩
      rcases hat with e | e
      · rw [e]; exact (h.far g hg).2
      · rw [e]
        have := hlt g hg
        simp
        omega
    · simp at hg
      subst hg
      refine ⟨hbase, ?_⟩
      rcases hat with e | e
      · rw [e]; exact hvne
      · rw [e]
        simp
        omega
theorem ConvRow.bb {w : World} {base : Nat} {gs : List (Nat × Nat)} {ss : List ByteArray} {A : Option Addr} {cap : Nat} (h : ConvRow w base (.slice A ss.length cap) gs ss) (hsz : ∀ s ∈ ss, s.size ≤ 140737488351232) : BB w A (bl ss) := by
  by_cases h0 : 0 < ss.length
  · obtain ⟨g0, cap', e0, _, _⟩ := own_addr h.own h0
    injection e0 with eA _ ec
    subst eA ec
    refine .inr ⟨g0, 0, rfl, fun i l hl => ?_⟩
    obtain ⟨s, hs, rfl⟩ := bl_get hl
    have hi : i < ss.length := by
      rcases Nat.lt_or_ge i ss.length with h' | h'
      · exact h'
      · rw [List.getElem?_eq_none h'] at hs; cases hs
    obtain ⟨g, hg⟩ : ∃ g, gs[i]? = some g := ⟨gs[i]'(by rw [h.len]; exact hi), List.getElem?_eq_getElem _⟩
    have hlen : s.data.toList.length = s.size := rfl
    obtain ⟨hb1, hb2⟩ := h.blk i g s hg hs
    refine ⟨by rw [hlen]; exact hsz s (List.mem_of_getElem? hs), some ⟨g.1, 0, none⟩, g.2, by omega, ?_, conv_bytes hb2⟩
    rw [Nat.zero_add, hlen]
    exact own_at h.own i _ (cvs_get hg hs)
  · left
    obtain rfl : ss = [] := List.eq_nil_of_length_eq_zero (by omega)
    rfl

theorem pick_any (c : Int) (n : Nat) (w : World) (hn : 0 < n) (hn2 : n ≤ 9223372036854775807) (hc : -9223372036854775808 ≤ c ∧ c ≤ 9223372036854775807) :
    Calls Tryd.prog 23 #[.int .i64 c, .int .i64 n] w fun e w' => (∃ k : Nat, k < n ∧ e = .returned (.int .i64 k)) ∧ w = w' := by
  have hn0 : ¬ (n : Int) = 0 := by omega
  have hnm : ¬ (n : Int) = -1 := by omega
  by_cases h : c < 0
  · have w1 : IntKind.i64.wrap (c + 1) = c + 1 := IntWalk.i64_in _ (by omega)
    have w2 : IntKind.i64.wrap (-(c + 1)) = -(c + 1) := IntWalk.i64_in _ (by omega)
    have hm1 := Int.emod_nonneg (-(c + 1)) hn0
    have hm2 := Int.emod_lt_of_pos (-(c + 1)) (show (0 : Int) < n by omega)
    have hm3 : (-(c + 1)).tmod (n : Int) = (-(c + 1)) % n := Int.tmod_eq_emod_of_nonneg (by omega)
    go_enter Tryd.func23, Tryd.ntmps23
    go_wp2_with fail
    go_ret
    exact ⟨⟨((-(c + 1)) % (n : Int)).toNat, by omega, by rw [Int.toNat_of_nonneg hm1]; rfl⟩, rfl⟩
  · have hm1 := Int.emod_nonneg c hn0
    have hm2 := Int.emod_lt_of_pos c (show (0 : Int) < n by omega)
    have hm3 : c.tmod (n : Int) = c % n := Int.tmod_eq_emod_of_nonneg (by omega)
    go_enter Tryd.func23, Tryd.ntmps23
    go_wp2_with fail
    go_ret
    exact ⟨⟨(c % (n : Int)).toNat, by omega, by rw [Int.toNat_of_nonneg hm1]; rfl⟩, rfl⟩

theorem fine_any (k : Int) (t : ByteArray) (w : World) :
    Calls Tryd.prog 24 #[errA k t] w fun e w' => e = .returned (.bool (k == 0 && t.toList.isEmpty)) ∧ Below w.heap.size w w' := by
  have q := eql_err
  unfold errA
  go_enter Tryd.func24, Tryd.ntmps24
  go_wp2_with fail
  go_ret
  refine ⟨?_, (Below.refl _ _).alloc (Nat.le_refl _) _⟩
  simp
end Go.Proofs.YtdiainkokgpldaaDoor
