/- The walks of the codec's Reader: Num; of the chain's hash, hashes. -/
import Derived.Test.YtljmklohgpaopaaDoorReadA
namespace Go.Proofs.YtljmklohgpaopaaDoor
open Go.RowKit

theorem Rdr.lt {w : World} {g : Nat} {l : List UInt8} {bad : Bool} (h : Rdr w g l bad) : g < w.heap.size := by
  obtain ⟨A, cap, _, _, hB, _⟩ := h
  exact hB.lt
theorem Rdr.only {F : Nat → Prop} {w w' : World} {g : Nat} {l : List UInt8} {bad : Bool} (h : Rdr w g l bad) (ho : Only F w w') (hF : ∀ x, x ≤ g → ¬ F x) : Rdr w' g l bad := by
  obtain ⟨A, cap, h1, h2, hB, hb, hA⟩ := h
  exact ⟨A, cap, h1, h2, ho.blk hB (hF g (Nat.le_refl _)), ho.bytes hb (fun p hp => hF _ (Nat.le_of_lt (hA p hp))), hA⟩
theorem Rdr.below {w w' : World} {g : Nat} {l : List UInt8} {bad : Bool} (h : Rdr w g l bad) (hb : Below w.heap.size w w') : Rdr w' g l bad := h.only (Only.of_below hb (fun _ => False)) (fun _ _ hx => hx)
theorem Rdr.length {w : World} {g : Nat} {l : List UInt8} {bad : Bool} (h : Rdr w g l bad) : l.length ≤ 140737488351232 := by
  obtain ⟨A, cap, _, h2, _⟩ := h
  exact h2

theorem only_set4 {F : Nat → Prop} {a w : World} (h : Only F a w) {g : Nat} (hg : F g ∨ a.heap.size ≤ g) (x0 x1 x2 x3 : Value) :
    Only F a ((((w.setCell ⟨g, 0, none⟩ x0).setCell ⟨g, 1, none⟩ x1).setCell ⟨g, 2, none⟩ x2).setCell ⟨g, 3, none⟩ x3) :=
  (((h.setCell hg x0).setCell hg x1).setCell hg x2).setCell hg x3

theorem num_any (g n : Nat) (l : List UInt8) (bad : Bool) (w : World) (h : Rdr w g l bad) (hn : n ≤ 7) :
    Calls Tryd.prog 81 #[.pointer (some ⟨g, 0, none⟩), .int .i64 n] w fun e w' => e = .returned (.int .i64 (Pl.num (l.take n) : Nat)) ∧ Rdr w' g (l.drop n) (bad || decide (l.length < n)) ∧ w.grownBy w' (some g) := by
  have hlt := Pl.num_take_lt l n
  have hlt2 : Pl.num (l.take n) < 72057594037927936 := Nat.lt_of_lt_of_le hlt (Nat.pow_le_pow_right (n := 256) (j := 7) (by decide) hn)
  have hl8 : (l.take n).length ≤ 8 := by rw [List.length_take]; omega
  obtain ⟨t, ht⟩ : ∃ t, l.take n = t := ⟨_, rfl⟩
  obtain ⟨v, hv⟩ : ∃ v, Pl.num t = v := ⟨_, rfl⟩
  have HT := Lib.hid ht
  have HV := Lib.hid hv
  rw [ht] at hl8 hlt2 ⊢
  rw [hv] at hlt2 ⊢
  clear hlt ht hv
  go_enter Tryd.func81, Tryd.ntmps81
  go_wp2_with fail
  refine (take_any g n l bad w h (by omega)).mono ?_
  rintro e w1 ⟨A, rfl, hb, hA, hR, hg⟩
  rw [HT.out] at hb ⊢
  go_wp2_with fail
  refine (get_any A _ t w1 hb hl8).mono ?_
  rintro e w' ⟨rfl, rfl⟩
  rw [HV.out]
  go_wp2_with fail
  go_ret
  exact ⟨rfl, hR, hg⟩

/-- copy(row, b) out of bytes, as much as fits. -/
theorem run_copy_bytes {P : Program} (w : World) (dT sT ty elem : TypeId) (g o dLen dCap m sLen sCap : Nat) (A : Option Addr) (l : List UInt8) (cur : List Value) (t : TypeId)
    (hu : P.underlying dT = some (.slice elem)) (hs : (P.info? elem).map (·.size) = some 1) (hg : Blk w g t cur) (hb : BytesAt w A l) (hl : l.length = sLen) (hm : Nat.min sLen dLen = m) (hfit : o + m ≤ cur.length) :
    ∃ w', (Builtin.copy_ #[dT, sT] ty #[.slice (some ⟨g, o, none⟩) dLen dCap, .slice A sLen sCap]).run P w = .ok (goInt m) w' ∧ Blk w' g t (cur.take o ++ bv (l.take m) ++ cur.drop (o + m)) ∧ w.grownBy w' (some g) := by
  have hml : m ≤ l.length := by rw [hl, ← hm]; exact Nat.min_le_left _ _
  have hbl : (bv (l.take m)).length = m := by
    rw [bv_length, List.length_take]
    exact Nat.min_eq_left hml
  by_cases h0 : m = 0
  · subst h0
    refine ⟨w, run_copy_none (P := P) w dT sT ty elem _ A dLen dCap sLen sCap hu hs hm, ?_, World.grownBy.refl w _⟩
    simpa [bv] using hg
  · obtain ⟨b, off, rfl, hc⟩ : ∃ b off, A = some ⟨b, off, none⟩ ∧ ∀ i, (h : i < l.length) → w.cell? ⟨b, off + i, none⟩ = some (.int .u8 (l[i].toNat : Int)) := by
      rcases hb with h | h
      · subst h; simp at hml; omega
      · exact h
    have hrun := run_copy_row (P := P) w dT sT ty elem g o dLen dCap ⟨b, off, none⟩ sLen sCap cur.toArray t (bv (l.take m)) hu hs hg (by rw [hbl, hm]) (fun j v hj => by
      have hjm : j < m := by rw [← hbl]; exact (List.getElem?_eq_some_iff.1 hj).1
      rw [bv_get? _ j (by rw [List.length_take]; omega)] at hj
      cases hj
      rw [addr_add, hc j (by omega), List.getElem_take]) (by rw [hbl]; simpa using hfit) (bv_one _)
    rw [hbl] at hrun
    refine ⟨_, hrun, ?_, ?_⟩
    · have := hg.setRow (cur.take o ++ (bv (l.take m) ++ cur.drop (o + m)))
      rw [List.append_assoc]
      exact this
    · exact Only.to_grown ((Only.refl (· = g) w).setRow (.inl rfl) _)

theorem run_slice_from (w : World) (A : Option Addr) (n cap k : Nat) (ki : Int) (hki : ki = k) (hk : k ≤ n) :
    (Instr.slice 23 (.slice A n cap) (some (.int .i64 ki)) none none).run Tryd.prog w = .ok (.slice (if cap = k then A else A.map (·.add k)) (n - k) (cap - k)) w := by
  obtain ⟨i0, hi, hz0, hz1, hz2⟩ := info_parts Tryd.infoByte
  subst hki
  have he : Tryd.prog.elem 23 = 5 := by kernel_rfl
  rw [run_slice_l (P := Tryd.prog) w 23 A n cap (by rw [he]; exact Tryd.underlying23) .i64 k (by omega) (by omega), he]
  simp [sizeOf, typeInfo, hi, hz1, sliced]
theorem step_copy_bytes {P : Program} {ops : Array Oper} {op : Oper} {a : Act} {w : World} {K : Act → World → Prop} {Q : Exit → Act → World → Prop} {E : Prop} (hgd : op.guard = none) (d s : Operand) (dT sT : TypeId)
    (ho : op.op = .call { callee := .builtin .copy, args := #[d, s], argTypes := #[dT, sT] }) (elem : TypeId) (g o dLen dCap m sLen sCap : Nat) (A : Option Addr) (l : List UInt8) (cur : List Value) (t : TypeId)
    (hu : P.underlying dT = some (.slice elem)) (hs : (P.info? elem).map (·.size) = some 1) (hd : a.eval d = .slice (some ⟨g, o, none⟩) dLen dCap) (hsr : a.eval s = .slice A sLen sCap)
    (hg : Blk w g t cur) (hb : BytesAt w A l) (hl : l.length = sLen) (hm : Nat.min sLen dLen = m) (hfit : o + m ≤ cur.length)
    (h : ∀ w', Blk w' g t (cur.take o ++ bv (l.take m) ++ cur.drop (o + m)) → w.grownBy w' (some g) → K (a.put op.dst (goInt m)) w') :
    if Region.wanted op (yielded ops a.tmps) = true then Oper.wp P op a w K Q else E := by
  have hw : Region.wanted op (yielded ops a.tmps) = true := by simp [Region.wanted, hgd]
  rw [if_pos hw]
  obtain ⟨w', hrun, h1, h2⟩ := run_copy_bytes (P := P) w dT sT op.type elem g o dLen dCap m sLen sCap A l cur t hu hs hg hb hl hm hfit
  unfold Oper.wp execOp
  simp only [ho, resolve, invoke, builtin, Sem.run_bind, Sem.run_pure, Result.andThen_ok, List.map_toArray, List.map_cons, List.map_nil, hd, hsr, hrun]
  exact h w' h1 h2

set_option maxHeartbeats 1000000 in
theorem hashRd_any (g : Nat) (l : List UInt8) (bad : Bool) (w : World) (h : Rdr w g l bad) :
    Calls Tryd.prog 85 #[.pointer (some ⟨g, 0, none⟩)] w fun e w' => e = .returned (hashVal (Pl.hashOf (l.take 4))) ∧ Rdr w' g (l.drop 4) (bad || decide (l.length < 4)) ∧ w.grownBy w' (some g) := by
  have hR := Lib.hid ((h.below (w' := w.alloc (.cells #[.int .u8 0, .int .u8 0, .int .u8 0, .int .u8 0] 73)) ((Below.refl _ _).alloc (Nat.le_refl _) _)).below (w' := (w.alloc (.cells #[.int .u8 0, .int .u8 0, .int .u8 0, .int .u8 0] 73)).alloc (.cells #[.int .u8 0, .int .u8 0, .int .u8 0, .int .u8 0] 73)) ((Below.refl _ _).alloc (Nat.le_refl _) _))
  have hlt := h.lt
  have hB1 := Lib.hid ((Blk.hash0 w).alloc (.cells #[.int .u8 0, .int .u8 0, .int .u8 0, .int .u8 0] 73))
  have hB2 := Lib.hid (Blk.newAt (w.alloc (.cells #[.int .u8 0, .int .u8 0, .int .u8 0, .int .u8 0] 73)) 73 [.int .u8 0, .int .u8 0, .int .u8 0, .int .u8 0] (w.heap.size + 1) (by simp))
  have hO := Lib.hid ((((Only.refl (· = g) w).alloc (.cells #[.int .u8 0, .int .u8 0, .int .u8 0, .int .u8 0] 73))).alloc (.cells #[.int .u8 0, .int .u8 0, .int .u8 0, .int .u8 0] 73))
  have hh := hc_hashOf (l.take 4)
  have hlen : Nat.min (l.take 4).length 4 = (l.take 4).length := by rw [List.length_take]; simp
  rw [hlen] at hh
  have HH := Lib.hid hh
  have HLEN := Lib.hid hlen
  obtain ⟨x, hx⟩ : ∃ x, Pl.hashOf (l.take 4) = x := ⟨_, rfl⟩
  have HX := Lib.hid hx
  rw [hx]
  clear hx hh hlen h
  go_enter Tryd.func85, Tryd.ntmps85
  go_wp2_with fail
  go_region_held3 (fun _ => True) (trivial) (first
    | (go_at_call 83; refine (take_any g 4 l bad _ (by exact hR.out) (by omega)).mono ?_; rintro e w1 ⟨A, rfl, hb, hA, hR1, hg⟩
       have ho1 := Lib.hid ((hO.out.drew.trans' (Only.of_grown hg)))
       have hb1 := Lib.hid (hB1.out.drew.grown hg (by simp; omega))
       have hb2 := hB2.out.drew.grown hg (by simp; omega)
       have h4 : (l.take 4).length ≤ 4 := List.length_take_le _ _
       obtain ⟨t, ht⟩ : ∃ t, l.take 4 = t := ⟨_, rfl⟩
       rw [ht] at h4
       have HH2 := HH.out
       have HLEN2 := HLEN.out
       have HX2 := HX.out
       rw [ht] at hb HH2 HLEN2 HX2 ⊢
       obtain ⟨w2, hcp, hb3, hg2⟩ := run_copy_bytes (P := Tryd.prog) w1 23 23 3 5 (w.heap.size + 1) 0 4 4 t.length t.length t.length A t _ _ Tryd.underlying23 Tryd.sizeByte2 hb2 hb rfl HLEN2 (by simpa using h4)
       have hsz := hg.size
       have hR2 := Lib.hid (hR1.only (Only.of_grown hg2) (fun x hx e => by omega))
       have ho2 := Lib.hid (ho1.out.grown hg2 (fun k hk => by cases hk; exact .inr (by omega)))
       have hb4 := hb1.out.grown hg2 (by simp)
       rw [List.take_zero, List.nil_append, HH2, HX2] at hb3
       obtain ⟨c0, c1, c2, c3, f0, f1, f2, f3⟩ := facts4 (show Blk w2 (w.heap.size + 1) 73 _ from hb3)
       obtain ⟨d0, d1, d2, d3, g0, g1, g2, g3⟩ := facts4 hb4
       have HB4 := Lib.hid hb4
       have HT := Lib.hid ht
       clear hb3 hb4 hg hg2 hb2 hb ht HH2 HLEN2 HX2 hR1 hA)
    | fail)
  go_wp2_with fail
  refine bodyPost_ret (v := hashVal x) (results_hash rfl rfl (HB4.out.set4 _ _ _ _)) rfl ⟨rfl, ?_, ?_⟩
  · exact hR2.out.only (only_set4 (Only.refl (· = w.heap.size) w2) (.inl rfl) _ _ _ _) (fun x hx e => by omega)
  · exact (only_set4 ho2.out (.inr (Nat.le_refl _)) _ _ _ _).to_grown
end Go.Proofs.YtljmklohgpaopaaDoor
