/- The walks of the harness's lentAll and stayAll. -/
import Derived.Test.YtdiainkokgpldaaDoorTreeZ
namespace Go.Proofs.YtdiainkokgpldaaDoor
open Go.RowKit

def lentV (g : Nat) (s : ByteArray) : Value := .slice (some ⟨g, 0, none⟩) s.size (s.size + 2)
def lc (gs : List Nat) (ss : List ByteArray) : List Value := List.zipWith lentV gs ss
theorem lc_len {gs : List Nat} {ss : List ByteArray} (h : gs.length = ss.length) : (lc gs ss).length = ss.length := by simp [lc, h]
theorem lc_snoc {gs : List Nat} {ss : List ByteArray} (h : gs.length = ss.length) (g : Nat) (s : ByteArray) : lc (gs ++ [g]) (ss ++ [s]) = lc gs ss ++ [lentV g s] := by
  simp [lc, List.zipWith_append h]
theorem lc_get {gs : List Nat} {ss : List ByteArray} {k g : Nat} {s : ByteArray} (hg : gs[k]? = some g) (hs : ss[k]? = some s) : (lc gs ss)[k]? = some (lentV g s) := by
  simp [lc, List.getElem?_zipWith, hg, hs]

/-- v is a row, of the call's own, of slices that 'lent' made. -/
structure Lent (w : World) (base : Nat) (v : Value) (gs : List Nat) (ss : List ByteArray) : Prop where
  len : gs.length = ss.length
  own : w.ownsRow base 37 1 v ss.length (lc gs ss)
  blk : ∀ (k g : Nat) (s : ByteArray), gs[k]? = some g → ss[k]? = some s → Blk w g 5 (lentRow s.data.toList)
  nodup : gs.Nodup
  far : ∀ g ∈ gs, base ≤ g ∧ v.ownBlock ≠ some g

theorem Lent.nil (w : World) (base : Nat) : Lent w base (.slice none 0 0) [] [] :=
  ⟨rfl, World.ownsRow_nil _ _ _ _, fun k g s h => by simp at h, List.nodup_nil, fun g h => by simp at h⟩
theorem Lent.lt {w : World} {base : Nat} {v : Value} {gs : List Nat} {ss : List ByteArray} (h : Lent w base v gs ss) : ∀ g ∈ gs, g < w.heap.size := by
  intro g hg
  obtain ⟨k, hk⟩ := List.mem_iff_getElem?.1 hg
  have hkl : k < ss.length := by
    rw [← h.len]
    rcases Nat.lt_or_ge k gs.length with h' | h'
    · exact h'
    · rw [List.getElem?_eq_none h'] at hk; cases hk
  exact (h.blk k g _ hk (List.getElem?_eq_getElem hkl)).lt
theorem Lent.below {w w' : World} {base : Nat} {v : Value} {gs : List Nat} {ss : List ByteArray} (h : Lent w base v gs ss) (hb : Below w.heap.size w w') : Lent w' base v gs ss :=
  ⟨h.len, own_below h.own hb, fun k g s h1 h2 => (h.blk k g s h1 h2).below hb (h.blk k g s h1 h2).lt, h.nodup, h.far⟩
/-- One more. -/
theorem Lent.snoc {w w3 : World} {base : Nat} {v v3 : Value} {gs : List Nat} {ss : List ByteArray} {s : ByteArray} {o : Obj} (h : Lent w base v gs ss) (hbase : base ≤ w.heap.size)
    (hown : w3.ownsRow base 37 1 v3 (ss.length + 1) (lc gs ss ++ [lentV w.heap.size s]))
    (hgrow : ((w.alloc (.cells (lentRow s.data.toList).toArray 5)).alloc o).grownBy w3 v.ownBlock)
    (hat : v3.ownBlock = v.ownBlock ∨ v3.ownBlock = some ((w.alloc (.cells (lentRow s.data.toList).toArray 5)).alloc o).heap.size) :
    Lent w3 base v3 (gs ++ [w.heap.size]) (ss ++ [s]) := by
  have hlt := h.lt
  have hvne : v.ownBlock ≠ some w.heap.size := fun e => by have := (h.own.lt _ e).2; omega
  have hw := ((Below.refl w.heap.size w).alloc (Nat.le_refl _) (.cells (lentRow s.data.toList).toArray 5)).alloc (by simp) o
  refine ⟨by simp [h.len], by rw [List.length_append, lc_snoc h.len]; exact hown, ?_, ?_, ?_⟩
  · intro k g u hg hu
    rw [List.getElem?_append] at hg hu
    rw [h.len] at hg
    split at hg
    · rename_i hk
      rw [if_pos hk] at hu
      have hb := h.blk k g u hg hu
      have hmem := List.mem_of_getElem? hg
      exact (hb.below hw (hlt g hmem)).grown hgrow (fun e => (h.far g hmem).2 e.symm)
    · rename_i hk
      rw [if_neg hk] at hu
      have h1 : k - ss.length = 0 := by
        rcases Nat.eq_zero_or_pos (k - ss.length) with h0 | h0
        · exact h0
        · rw [List.getElem?_eq_none (by simp; omega)] at hg; cases hg
      rw [h1] at hg hu
      simp only [List.getElem?_cons_zero, Option.some.injEq] at hg hu
      subst hg hu
      exact ((Blk.new w 5 (lentRow s.data.toList)).alloc o).grown hgrow (fun e => hvne e.symm)
  · rw [List.nodup_append]
    refine ⟨h.nodup, by simp, fun a ha b hb => ?_⟩
    simp at hb
    have := hlt a ha
    omega
  · intro g hg
    rcases List.mem_append.1 hg with hg | hg
    · refine ⟨(h.far g hg).1, ?_⟩
      rcases hat with e | e
      · rw [e]; exact (h.far g hg).2
      · rw [e]
        have := hlt g hg
        simp
        omega
    · simp at hg
      subst hg
      refine ⟨hbase, ?_⟩
      rcases hat with e | e
      · rw [e]; exact hvne
      · rw [e]
        simp
        omega

theorem Tryd.infoSlice : (Tryd.prog.info? 37).map (fun i => (i.zero, i.size, i.bytes)) = some (some (.slice none 0 0), 1, 24) := by kernel_rfl

theorem slice_room {n m : Nat} (h : n + m ≤ 8796093022208) : ∀ old, old < n + m → Builtin.nextslicecap (n + m) old * 24 ≤ 281474976710656 := by
  intro old ho
  have := nextslicecap_le54 ho
  omega

set_option maxHeartbeats 2000000 in
set_option maxRecDepth 100000 in
theorem lentAll_any (ss : List ByteArray) (A : Option Addr) (cap : Nat) (w : World) (hs : Src w A (sv ss)) (hm : ss.length ≤ 8796093022208) (hsz : ∀ s ∈ ss, s.size ≤ 140737488351232) :
    Calls Tryd.prog 10 #[.slice A ss.length cap] w fun e w' => ∃ v gs, e = .returned v ∧ Lent w' w.heap.size v gs ss ∧ Below w.heap.size w w' := by
  obtain ⟨i0, hi0, hz0, hz1, hz2⟩ := info_parts Tryd.infoSlice
  go_enter Tryd.func10, Tryd.ntmps10
  go_wp2_with fail
  go_loopw [3, 4, 5] (fun v i _ wr => ∃ j gs, j ≤ ss.length ∧ i = .int .i64 (j : Nat) ∧ Hid (Lent wr w.heap.size v gs (ss.take j)) ∧ Below w.heap.size w wr) (fun _ i _ _ => ss.length - (intOf i).toNat)
  case atStart => exact ⟨0, [], by omega, rfl, Lent.nil _ _, Below.refl _ _⟩
  case round =>
    obtain ⟨j, gs, hj, rfl, HL, hbel⟩ := hrel
    by_cases hjl : j < ss.length
    · obtain ⟨s, hx⟩ : ∃ s, ss[j] = s := ⟨_, rfl⟩
      have hxg : (sv ss)[j]? = some (.string s) := by simp [sv, List.getElem?_eq_getElem hjl, hx]
      have hssz := hsz s (by rw [← hx]; exact List.getElem_mem hjl)
      obtain ⟨b, off, rfl, hc⟩ := (hs.below hbel).at_ j _ hxg
      have hroom := Lib.hid (slice_room (n := j) (m := 1) (by omega))
      have h63 := Lib.hid (show j + 1 ≤ maxLen by simp only [maxLen]; omega)
      have htk : Hid (ss.take (j + 1) = ss.take j ++ [s]) := by rw [Hid, List.take_succ_eq_append_getElem hjl, hx]
      have htl : (ss.take j).length = j := by rw [List.length_take]; omega
      have hbase := hbel.size
      clear hx hxg
      go_wp2_with fail
      refine (lent_any s _ hssz).mono ?_
      rintro e w2 ⟨rfl, rfl⟩
      have hown2 := Lib.hid ((HL.out.own.alloc (.cells (lentRow s.data.toList).toArray 5)).alloc (.cells #[lentV wr.heap.size s] 37))
      have hsrc2 := Lib.hid (Src.of_blk (Blk.newAt (wr.alloc (.cells (lentRow s.data.toList).toArray 5)) 37 [lentV wr.heap.size s] (wr.heap.size + 1) (by simp)))
      have hbel2 := (hbel.alloc hbase (.cells (lentRow s.data.toList).toArray 5)).alloc (size_alloc_le hbase _) (.cells #[lentV wr.heap.size s] 37)
      have hbase2 := hbel2.size
      have hone : Hid (∀ u ∈ [lentV wr.heap.size s], u.oneCell' = true) := by
        intro u hu
        simp at hu
        subst hu
        rfl
      rw [htl] at hown2
      clear hbel
      go_wp2_with (at_builtin
                   refine wpList_append_src _ rfl (.tmp 17) (.tmp 19) 28 rfl w.heap.size 37 i0 (.slice none 0 0) 1 24 Tryd.underlying28 hi0 hz0 hz1 hz2 rfl (by decide) u3 j (lc gs (ss.take j)) rfl hown2.out (some ⟨wr.heap.size + 1, 0, none⟩) 1 1 [lentV wr.heap.size s] rfl rfl hsrc2.out hone.out h63.out hroom.out hbase2 ?_
                   intro v3 w3 hown3 hgrow3 hat3)
      refine ⟨⟨j + 1, gs ++ [wr.heap.size], by omega, by go_num, ?_, ?_⟩, by simp [intOf]; omega⟩
      · rw [htk.out]
        refine HL.out.snoc hbase ?_ hgrow3 hat3
        rw [htl]
        exact hown3
      · exact hbel2.grown hgrow3 hbase2 (fun g hg => (hown2.out.lt g hg).1)
    · have hjj : j = ss.length := by omega
      rw [show ss.take j = ss by rw [hjj, List.take_length]] at HL
      clear hjj
      go_wp2_with fail
      go_ret
      exact ⟨_, gs, rfl, HL.out, hbel⟩

theorem own_addr {w : World} {base : Nat} {e : TypeId} {size n : Nat} {v : Value} {xs : List Value} (h : w.ownsRow base e size v n xs) (hn : 0 < n) : ∃ g cap, v = .slice (some ⟨g, 0, none⟩) n cap ∧ base ≤ g ∧ n ≤ cap := by
  rcases h.2 with ⟨_, h0⟩ | ⟨g, cap, cur, hv, hb, _, hc, _⟩
  · omega
  · exact ⟨g, cap, hv, hb, hc⟩
theorem own_at {w : World} {base g cap : Nat} {e : TypeId} {size n : Nat} {xs : List Value} (h : w.ownsRow base e size (.slice (some ⟨g, 0, none⟩) n cap) n xs) (j : Nat) (u : Value) (hu : xs[j]? = some u) : w.cell? ⟨g, j, none⟩ = some u := by
  have := h.cells (g := g) rfl j u hu
  rwa [addr_add, Nat.zero_add] at this

set_option maxHeartbeats 2000000 in
set_option maxRecDepth 100000 in
theorem stayAll_any (ss : List ByteArray) (B : Option Addr) (base cap2 : Nat) (v : Value) (gs : List Nat) (w : World) (hl : Lent w base v gs ss) (hB : Src w B (sv ss)) (hBb : 0 < ss.length → ∀ b, B = some b → b.block < base) (hbase : base ≤ w.heap.size) (hm : ss.length ≤ 8796093022208) (hsz : ∀ s ∈ ss, s.size ≤ 140737488351232) :
    Calls Tryd.prog 13 #[v, .slice B ss.length cap2] w fun e w' => e = .returned (.bool true) ∧ Below base w w' ∧ ∀ k, k < w.heap.size → k ∉ gs → w'.heap[k]? = w.heap[k]? := by
  obtain ⟨A, cap, rfl, hcap, _, _⟩ := own_src hl.own
  have q0 : ((ss.length : Int) == ss.length) = true := by simp
  go_enter Tryd.func13, Tryd.ntmps13
  go_wp2_with fail
  go_loopw [5, 6] (fun o i wr => ∃ j, j ≤ ss.length ∧ o = .bool true ∧ i = .int .i64 (j : Nat) ∧ Hid (wr.ownsRow base 37 1 (.slice A ss.length cap) ss.length (lc gs ss)) ∧
    Hid (∀ (k g : Nat) (s : ByteArray), j ≤ k → gs[k]? = some g → ss[k]? = some s → Blk wr g 5 (lentRow s.data.toList)) ∧ Below base w wr ∧ Hid (∀ k, k < w.heap.size → k ∉ gs → wr.heap[k]? = w.heap[k]?)) (fun _ i _ => ss.length - (intOf i).toNat)
  case atStart => exact ⟨0, by omega, rfl, rfl, hl.own, fun k g s _ => hl.blk k g s, Below.refl _ _, fun k _ _ => rfl⟩
  case round =>
    obtain ⟨j, hj, rfl, rfl, HO, HK, hbel, HR⟩ := hrel
    by_cases hjl : j < ss.length
    · obtain ⟨s, hx⟩ : ∃ s, ss[j] = s := ⟨_, rfl⟩
      have hxg : ss[j]? = some s := by rw [List.getElem?_eq_getElem hjl, hx]
      obtain ⟨g, hgx⟩ : ∃ g, gs[j]? = some g := ⟨gs[j]'(by rw [hl.len]; exact hjl), List.getElem?_eq_getElem _⟩
      have hssz := hsz s (by rw [← hx]; exact List.getElem_mem hjl)
      obtain ⟨b, off, rfl, hcb0⟩ := hB.at_ j (.string s) (by simp [sv, hxg])
      have hbl : b < base := hBb (by omega) _ rfl
      have hcb := (hbel.cell (p := ⟨b, off + j, none⟩) hbl).trans hcb0
      obtain ⟨g0, cap', e0, hg0, _⟩ := own_addr HO.out (by omega)
      injection e0 with eA _ ec
      subst eA ec
      have hgetj : Hid ((lc gs ss)[j]? = some (.slice (some ⟨g, 0, none⟩) s.size (s.size + 2))) := lc_get hgx hxg
      have hca := own_at HO.out j _ hgetj.out
      have hblk := Lib.hid (HK.out j g s (Nat.le_refl _) hgx hxg)
      have hfar := hl.far g (List.mem_of_getElem? hgx)
      have s0 := Lib.hid (And.intro hca hcb)
      have hx0 : (0 : Int) ≤ (j : Int) := by omega
      have hx1 : (j : Int) < (ss.length : Int) := by omega
      have HGX := Lib.hid hgx
      clear hx hxg hgx hca hcb
      go_wp2_with fail
      go_region_held3 (fun W : World => W.cell? ⟨g0, j, none⟩ = some (.slice (some ⟨g, 0, none⟩) s.size (s.size + 2)) ∧ W.cell? ⟨b, off + j, none⟩ = some (.string s)) (first | exact s0.out | exact s1.out | fail) (first
        | (go_at_call 19; (with_reducible refine (stays_any g s _ hssz ?_).mono ?_); exact hblk.out; rintro e w2 ⟨rfl, hgrow', cs, hcs, hb2⟩
           have hgrow : wr.grownBy w2 (some g) := ⟨hgrow'.os, hgrow'.tape, hgrow'.output, hgrow'.size, hgrow'.block⟩
           have hown2 := HO.out.kept hgrow (.inr hfar.2)
           have hbel2 := hbel.grown hgrow (Nat.le_trans hbase hbel.size) (fun k hk => by cases hk; exact hfar.1)
           have s1 := Lib.hid (And.intro (own_at hown2 j _ hgetj.out) ((hbel2.cell (p := ⟨b, off + j, none⟩) hbl).trans hcb0)))
        | fail)
      go_wp2_with fail
      refine ⟨⟨j + 1, by omega, rfl, by go_num, hown2, ?_, hbel2, fun k hk hn => (hgrow.block k (Nat.lt_of_lt_of_le hk hbel.size) (fun e => hn (by injection e with e; subst e; exact List.mem_of_getElem? HGX.out))).trans (HR.out k hk hn)⟩, by simp [intOf]; omega⟩
      intro k g' s' hk hg' hs'
      refine (HK.out k g' s' (by omega) hg' hs').grown hgrow (fun e => ?_)
      injection e with e
      subst e
      have h1 : gs[k]? = gs[j]? := by rw [hg', HGX.out]
      have h2 := (List.getElem?_inj (by rw [hl.len]; exact hjl) hl.nodup).1 h1.symm
      omega
    · have hjj : j = ss.length := by omega
      subst hjj
      go_wp2_with fail
      go_ret
      exact ⟨rfl, hbel, HR.out⟩
end Go.Proofs.YtdiainkokgpldaaDoor
