/- The walks of the reference's Number, cursor, Extends. -/
import Derived.Test.YtljmklohgpaopaaDoorReadD
namespace Go.Proofs.YtljmklohgpaopaaDoor
open Go.RowKit

theorem hstr_tstr (n : Nat) : hstr n = tstr (Pl.be 4 n) := rfl
theorem run_str_mid (w : World) (l : List UInt8) (i j : Int) (a n : Nat) (hi : i = a) (hj : j = a + n) (hn : a + n ≤ l.length) :
    (Instr.slice 9 (.string (tstr l)) (some (.int .i64 i)) (some (.int .i64 j)) none).run Tryd.prog w = .ok (.string (tstr ((l.drop a).take n))) w := by
  subst hi hj
  rw [run_slice_string_if w 9 (tstr l) .i64 .i64 a (a + n) Tryd.underlying9, if_pos ⟨by omega, by rw [tstr_size]; omega⟩, if_pos ⟨by omega, by omega⟩]
  have : (tstr l).extract (a : Int).toNat ((a : Int) + n).toNat = tstr ((l.drop a).take n) := by
    rw [Int.toNat_natCast, show ((a : Int) + n).toNat = a + n by omega]
    have h : ((tstr l).extract a (a + n)).data = (tstr ((l.drop a).take n)).data := by
      apply Array.toList_inj.1
      simp [tstr_list, tstr, List.drop_take]
    cases h1 : (tstr l).extract a (a + n); cases h2 : tstr ((l.drop a).take n); rw [h1, h2] at h; simpa using h
  rw [this]

theorem number_any (s : ByteArray) (w : World) (hl : s.size ≤ 8) :
    Calls Tryd.prog 56 #[.string s] w fun e w' => e = .returned (.int .u64 (Pl.num s.data.toList : Nat)) ∧ w = w' := by
  obtain ⟨l, hll⟩ : ∃ l, s.data.toList = l := ⟨_, rfl⟩
  have hsz : l.length = s.size := by rw [← hll]; rfl
  have HSZ := Lib.hid hsz
  have hl8 : l.length ≤ 8 := by omega
  rw [hll]
  go_enter Tryd.func56, Tryd.ntmps56
  go_wp2_with fail
  go_loop [3, 4] (fun v i => ∃ k : Nat, k ≤ l.length ∧ i = .int .i64 k ∧ v = .int .u64 (Pl.num (l.take k) : Nat)) (fun _ i => l.length - (intOf i).toNat)
  case atStart => exact ⟨0, Nat.zero_le _, rfl, rfl⟩
  case round =>
    obtain ⟨k, hk, rfl, rfl⟩ := hrel
    by_cases hlt : k < l.length
    · have hks : k < s.size := by omega
      have hn1 := Pl.num_take_lt l k
      have hn2 : Pl.num (l.take k) < 72057594037927936 := Nat.lt_of_lt_of_le hn1 (Nat.pow_le_pow_right (n := 256) (j := 7) (by decide) (by omega))
      have hnext : Hid (Pl.num (l.take (k + 1)) = 256 * Pl.num (l.take k) + l[k].toNat) := by rw [Hid, take_snoc l k hlt, Pl.num_snoc]
      obtain ⟨v, hv⟩ : ∃ v, Pl.num (l.take k) = v := ⟨_, rfl⟩
      have hlk : l[k] = s[k] := by subst hll; rfl
      obtain ⟨c, hc⟩ : ∃ c, s[k] = c := ⟨_, rfl⟩
      have hc8 := c.toNat_lt
      have hnext' : Hid (Pl.num (l.take (k + 1)) = 256 * v + c.toNat) := by rw [← hv, ← hc, ← hlk]; exact hnext
      rw [hv] at hn2 ⊢
      clear hn1 hnext hv hlk hll hsz
      go_wp2_with fail
      refine ⟨⟨k + 1, by omega, by simp, ?_⟩, by simp [intOf]; omega⟩
      rw [hnext'.out]
      simp
    · obtain rfl : k = l.length := by omega
      have hks : ¬ l.length < s.size := by omega
      rw [List.take_length]
      clear hll hsz
      go_wp2_with fail
      go_ret
      exact ⟨rfl, rfl⟩

/-- A cursor: what is left, and is it bad? -/
def Cur (w : World) (g : Nat) (l : List UInt8) (bad : Bool) : Prop := l.length ≤ 140737488351232 ∧ Blk w g 84 [.string (tstr l), .bool bad]
theorem Cur.below {w w' : World} {g : Nat} {l : List UInt8} {bad : Bool} (h : Cur w g l bad) (hb : Below w.heap.size w w') : Cur w' g l bad := ⟨h.1, h.2.below hb h.2.lt⟩
theorem Cur.grown {w w' : World} {g : Nat} {l : List UInt8} {bad : Bool} (h : Cur w g l bad) (hb : Below w.heap.size w w') : Cur w' g l bad := h.below hb

set_option maxHeartbeats 1000000 in
theorem curTake_enough (g n : Nat) (l : List UInt8) (bad : Bool) (w : World) (h : Cur w g l bad) (hn : n ≤ l.length) :
    Calls Tryd.prog 32 #[.pointer (some ⟨g, 0, none⟩), .int .i64 n] w fun e w' => e = .returned (.string (tstr (l.take n))) ∧ Cur w' g (l.drop n) bad ∧ w.grownBy w' (some g) := by
  obtain ⟨hm, hB⟩ := h
  have c0 := hB.cell 0
  have f0 := hB.frozen 0
  simp only [List.getElem?_cons_zero] at c0
  have h1 := fun w => run_str_take w l n n rfl hn
  have h2 := fun w => run_str_drop w l n n rfl hn
  have hsz := tstr_size l
  obtain ⟨st, hst⟩ : ∃ st, tstr l = st := ⟨_, rfl⟩
  rw [hst] at c0 h1 h2 hsz
  have hx1 : ¬ (st.size : Int) < n := by omega
  have hx2 : ¬ st.size < n := by omega
  have HB := Lib.hid hB
  clear hB hst hsz
  go_enter Tryd.func32, Tryd.ntmps32
  go_wp2_with fail
  go_ret
  refine ⟨rfl, ⟨by rw [List.length_drop]; omega, HB.out.set_ 0 _⟩, ?_⟩
  exact Only.to_grown ((Only.refl (· = g) w).setCell (p := ⟨g, 0, none⟩) (.inl rfl) _)
theorem zeros_at (w : World) (n : Nat) : BytesAt (w.alloc (.cells (zrow n).toArray 5)) (some ⟨w.heap.size, 0, none⟩) (List.replicate n 0) := by
  refine Src.bytes ?_
  have h : bv (List.replicate n 0) = zrow n := by simp [bv, zrow]
  rw [h]
  exact Src.of_blk (Blk.new _ _ _)
set_option maxHeartbeats 1000000 in
theorem curTake_short (g n : Nat) (l : List UInt8) (bad : Bool) (w : World) (h : Cur w g l bad) (hn : l.length < n) (hn2 : n ≤ 281474976710656) :
    Calls Tryd.prog 32 #[.pointer (some ⟨g, 0, none⟩), .int .i64 n] w fun e w' => e = .returned (.string (tstr (List.replicate n 0))) ∧ Cur w' g l true ∧ w.grownBy w' (some g) := by
  obtain ⟨hm, hB⟩ := h
  have c0 := hB.cell 0
  have c1 := hB.cell 1
  have f1 := hB.frozen 1
  simp only [List.getElem?_cons_zero, List.getElem?_cons_succ] at c0 c1
  have hsz := tstr_size l
  have hmk := make_bytes (n : Int) n rfl hn2
  have hcv := run_tostr ((w.setCell ⟨g, 1, none⟩ (.bool true)).alloc (.cells (zrow n).toArray 5)) (some ⟨(w.setCell ⟨g, 1, none⟩ (.bool true)).heap.size, 0, none⟩) (List.replicate n 0) n (zeros_at _ n)
  rw [List.length_replicate] at hcv
  obtain ⟨zs, hzs⟩ : ∃ zs, (zrow n).toArray = zs := ⟨_, rfl⟩
  obtain ⟨zt, hzt⟩ : ∃ zt, tstr (List.replicate n 0) = zt := ⟨_, rfl⟩
  rw [hzs] at hmk hcv
  rw [hzt] at hcv ⊢
  obtain ⟨st, hst⟩ : ∃ st, tstr l = st := ⟨_, rfl⟩
  rw [hst] at c0 hsz
  have HST := Lib.hid hst
  have hx1 : (st.size : Int) < n := by omega
  have hx2 : st.size < n := by omega
  have HB := Lib.hid hB
  have hsc : (w.setCell ⟨g, 1, none⟩ (.bool true)).heap.size = w.heap.size := by simp [World.setCell]
  rw [hsc] at hcv
  clear hB hst hsz hzs hzt hsc
  go_enter Tryd.func32, Tryd.ntmps32
  go_wp2_with fail
  go_ret
  refine ⟨rfl, ⟨hm, ?_⟩, ?_⟩
  · exact (HB.out.set_ 1 (.bool true)).alloc _
  · exact Only.to_grown (((Only.refl (· = g) w).setCell (p := ⟨g, 1, none⟩) (.inl rfl) _).alloc _)
theorem curTake_st {o : Option Pl.Ev} {f : List UInt8 → List UInt8 → Option Pl.Ev} (g n : Nat) (l : List UInt8) (bad : Bool) (w : World) (h : Cur w g l bad) (hn : n ≤ 281474976710656) (hs : Pl.St o bad (Pl.bt n l f)) :
    Calls Tryd.prog 32 #[.pointer (some ⟨g, 0, none⟩), .int .i64 n] w fun e w' => ∃ t l' bad', e = .returned (.string (tstr t)) ∧ t.length = n ∧ Cur w' g l' bad' ∧ w.grownBy w' (some g) ∧ Pl.St o bad' (f t l') := by
  by_cases hl : n ≤ l.length
  · refine (curTake_enough g n l bad w h hl).mono ?_
    rintro e w' ⟨rfl, h1, h2⟩
    refine ⟨l.take n, l.drop n, bad, rfl, by rw [List.length_take]; omega, h1, h2, ?_⟩
    have := hs.take
    rwa [decide_eq_false (by omega), Bool.or_false] at this
  · refine (curTake_short g n l bad w h (by omega) hn).mono ?_
    rintro e w' ⟨rfl, h1, h2⟩
    exact ⟨_, l, true, rfl, List.length_replicate, h1, h2, hs.short (by omega) _⟩
theorem curNum_st {o : Option Pl.Ev} {f : List UInt8 → List UInt8 → Option Pl.Ev} (g n : Nat) (l : List UInt8) (bad : Bool) (w : World) (h : Cur w g l bad) (hn : n ≤ 7) (hs : Pl.St o bad (Pl.bt n l f)) :
    Calls Tryd.prog 31 #[.pointer (some ⟨g, 0, none⟩), .int .i64 n] w fun e w' => ∃ t l' bad', e = .returned (.int .i64 (Pl.num t : Nat)) ∧ Pl.num t < 256 ^ n ∧ Cur w' g l' bad' ∧ w.grownBy w' (some g) ∧ Pl.St o bad' (f t l') := by
  have HS := Lib.hid hs
  clear hs
  go_enter Tryd.func31, Tryd.ntmps31
  go_wp2_with fail
  refine (curTake_st g n l bad w h (by omega) HS.out).mono ?_
  rintro e w1 ⟨t, l', b', rfl, ht, hC, hg, hs1⟩
  have hlt := Pl.num_lt t
  rw [ht] at hlt
  have hlt2 : Pl.num t < 72057594037927936 := Nat.lt_of_lt_of_le hlt (Nat.pow_le_pow_right (n := 256) (j := 7) (by decide) hn)
  have HLT := Lib.hid hlt
  have HS1 := Lib.hid hs1
  have HN := number_any (tstr t) w1 (by rw [tstr_size]; omega)
  rw [tstr_list] at HN
  clear hlt hs1 ht
  go_wp2_with fail
  refine HN.mono ?_
  rintro e w' ⟨rfl, rfl⟩
  clear HN
  go_wp2_with fail
  go_ret
  exact ⟨t, l', b', rfl, HLT.out, hC, hg, HS1.out⟩
end Go.Proofs.YtljmklohgpaopaaDoor
