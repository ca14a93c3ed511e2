/- The walks of the reference's Number, cursor, Extends. The walks of the disk's Sectors, Dead, Read, changes, Write, Sync. A call that is guarded: what a panic with a fault makes of it. -/
import Derived.Test.YtljmklohgpaopaaDoorMgLogs7
import Derived.Test.YtljmklohgpaopaaDoorMgLogs5
import Derived.Test.YtljmklohgpaopaaDoorMgLogs6
import Derived.Outline
import Derived.Test.YtljmklohgpaopaaDoorMgLogs4
import Derived.Defers
import Derived.Recover
import Derived.Laws.Pointers

namespace Go.Proofs.YtljmklohgpaopaaDoor
open Go.RowKit

theorem hstr_tstr (n : Nat) : hstr n = tstr (Pl.be 4 n) := rfl
theorem run_str_mid (w : World) (l : List UInt8) (i j : Int) (a n : Nat) (hi : i = a) (hj : j = a + n) (hn : a + n ≤ l.length) :
    (Instr.slice 9 (.string (tstr l)) (some (.int .i64 i)) (some (.int .i64 j)) none).run Tryd.prog w = .ok (.string (tstr ((l.drop a).take n))) w := by
  subst hi hj
  rw [run_slice_string_if w 9 (tstr l) .i64 .i64 a (a + n) Tryd.underlying9, if_pos ⟨by omega, by rw [tstr_size]; omega⟩, if_pos ⟨by omega, by omega⟩]
  have : (tstr l).extract (a : Int).toNat ((a : Int) + n).toNat = tstr ((l.drop a).take n) := by
    rw [Int.toNat_natCast, show ((a : Int) + n).toNat = a + n by omega]
    have h : ((tstr l).extract a (a + n)).data = (tstr ((l.drop a).take n)).data := by
      apply Array.toList_inj.1
      simp [tstr_list, tstr, List.drop_take]
    cases h1 : (tstr l).extract a (a + n); cases h2 : tstr ((l.drop a).take n); rw [h1, h2] at h; simpa using h
  rw [this]

theorem number_any (s : ByteArray) (w : World) (hl : s.size ≤ 8) :
    Calls Tryd.prog 56 #[.string s] w fun e w' => e = .returned (.int .u64 (Pl.num s.data.toList : Nat)) ∧ w = w' := by
  obtain ⟨l, hll⟩ : ∃ l, s.data.toList = l := ⟨_, rfl⟩
  have hsz : l.length = s.size := by rw [← hll]; rfl
  have HSZ := Lib.hid hsz
  have hl8 : l.length ≤ 8 := by omega
  rw [hll]
  go_enter Tryd.func56, Tryd.ntmps56
  go_wp2_with fail
  go_loop [3, 4] (fun v i => ∃ k : Nat, k ≤ l.length ∧ i = .int .i64 k ∧ v = .int .u64 (Pl.num (l.take k) : Nat)) (fun _ i => l.length - (intOf i).toNat)
  case atStart => exact ⟨0, Nat.zero_le _, rfl, rfl⟩
  case round =>
    obtain ⟨k, hk, rfl, rfl⟩ := hrel
    by_cases hlt : k < l.length
    · have hks : k < s.size := by omega
      have hn1 := Pl.num_take_lt l k
      have hn2 : Pl.num (l.take k) < 72057594037927936 := Nat.lt_of_lt_of_le hn1 (Nat.pow_le_pow_right (n := 256) (j := 7) (by decide) (by omega))
      have hnext : Hid (Pl.num (l.take (k + 1)) = 256 * Pl.num (l.take k) + l[k].toNat) := by rw [Hid, take_snoc l k hlt, Pl.num_snoc]
      obtain ⟨v, hv⟩ : ∃ v, Pl.num (l.take k) = v := ⟨_, rfl⟩
      have hlk : l[k] = s[k] := by subst hll; rfl
      obtain ⟨c, hc⟩ : ∃ c, s[k] = c := ⟨_, rfl⟩
      have hc8 := c.toNat_lt
      have hnext' : Hid (Pl.num (l.take (k + 1)) = 256 * v + c.toNat) := by rw [← hv, ← hc, ← hlk]; exact hnext
      rw [hv] at hn2 ⊢
      clear hn1 hnext hv hlk hll hsz
      go_wp2_with fail
      refine ⟨⟨k + 1, by omega, by simp, ?_⟩, by simp [intOf]; omega⟩
      rw [hnext'.out]
      simp
    · obtain rfl : k = l.length := by omega
      have hks : ¬ l.length < s.size := by omega
      rw [List.take_length]
      clear hll hsz
      go_wp2_with fail
      go_ret
      exact ⟨rfl, rfl⟩

/-- A cursor: what is left, and is it bad? -/
def Cur (w : World) (g : Nat) (l : List UInt8) (bad : Bool) : Prop := l.length ≤ 140737488351232 ∧ Blk w g 84 [.string (tstr l), .bool bad]
theorem Cur.below {w w' : World} {g : Nat} {l : List UInt8} {bad : Bool} (h : Cur w g l bad) (hb : Below w.heap.size w w') : Cur w' g l bad := ⟨h.1, h.2.below hb h.2.lt⟩
theorem Cur.grown {w w' : World} {g : Nat} {l : List UInt8} {bad : Bool} (h : Cur w g l bad) (hb : Below w.heap.size w w') : Cur w' g l bad := h.below hb

set_option maxHeartbeats 1000000 in
theorem curTake_enough (g n : Nat) (l : List UInt8) (bad : Bool) (w : World) (h : Cur w g l bad) (hn : n ≤ l.length) :
    Calls Tryd.prog 32 #[.pointer (some ⟨g, 0, none⟩), .int .i64 n] w fun e w' => e = .returned (.string (tstr (l.take n))) ∧ Cur w' g (l.drop n) bad ∧ w.grownBy w' (some g) := by
  obtain ⟨hm, hB⟩ := h
  have c0 := hB.cell 0
  have f0 := hB.frozen 0
  simp only [List.getElem?_cons_zero] at c0
  have h1 := fun w => run_str_take w l n n rfl hn
  have h2 := fun w => run_str_drop w l n n rfl hn
  have hsz := tstr_size l
  obtain ⟨st, hst⟩ : ∃ st, tstr l = st := ⟨_, rfl⟩
  rw [hst] at c0 h1 h2 hsz
  have hx1 : ¬ (st.size : Int) < n := by omega
  have hx2 : ¬ st.size < n := by omega
  have HB := Lib.hid hB
  clear hB hst hsz
  go_enter Tryd.func32, Tryd.ntmps32
  go_wp2_with fail
  go_ret
  refine ⟨rfl, ⟨by rw [List.length_drop]; omega, HB.out.set_ 0 _⟩, ?_⟩
  exact Only.to_grown ((Only.refl (· = g) w).setCell (p := ⟨g, 0, none⟩) (.inl rfl) _)
theorem zeros_at (w : World) (n : Nat) : BytesAt (w.alloc (.cells (zrow n).toArray 5)) (some ⟨w.heap.size, 0, none⟩) (List.replicate n 0) := by
  refine Src.bytes ?_
  have h : bv (List.replicate n 0) = zrow n := by simp [bv, zrow]
  rw [h]
  exact Src.of_blk (Blk.new _ _ _)
set_option maxHeartbeats 1000000 in
theorem curTake_short (g n : Nat) (l : List UInt8) (bad : Bool) (w : World) (h : Cur w g l bad) (hn : l.length < n) (hn2 : n ≤ 281474976710656) :
    Calls Tryd.prog 32 #[.pointer (some ⟨g, 0, none⟩), .int .i64 n] w fun e w' => e = .returned (.string (tstr (List.replicate n 0))) ∧ Cur w' g l true ∧ w.grownBy w' (some g) := by
  obtain ⟨hm, hB⟩ := h
  have c0 := hB.cell 0
  have c1 := hB.cell 1
  have f1 := hB.frozen 1
  simp only [List.getElem?_cons_zero, List.getElem?_cons_succ] at c0 c1
  have hsz := tstr_size l
  have hmk := make_bytes (n : Int) n rfl hn2
  have hcv := run_tostr ((w.setCell ⟨g, 1, none⟩ (.bool true)).alloc (.cells (zrow n).toArray 5)) (some ⟨(w.setCell ⟨g, 1, none⟩ (.bool true)).heap.size, 0, none⟩) (List.replicate n 0) n (zeros_at _ n)
  rw [List.length_replicate] at hcv
  obtain ⟨zs, hzs⟩ : ∃ zs, (zrow n).toArray = zs := ⟨_, rfl⟩
  obtain ⟨zt, hzt⟩ : ∃ zt, tstr (List.replicate n 0) = zt := ⟨_, rfl⟩
  rw [hzs] at hmk hcv
  rw [hzt] at hcv ⊢
  obtain ⟨st, hst⟩ : ∃ st, tstr l = st := ⟨_, rfl⟩
  rw [hst] at c0 hsz
  have HST := Lib.hid hst
  have hx1 : (st.size : Int) < n := by omega
  have hx2 : st.size < n := by omega
  have HB := Lib.hid hB
  have hsc : (w.setCell ⟨g, 1, none⟩ (.bool true)).heap.size = w.heap.size := by simp [World.setCell]
  rw [hsc] at hcv
  clear hB hst hsz hzs hzt hsc
  go_enter Tryd.func32, Tryd.ntmps32
  go_wp2_with fail
  go_ret
  refine ⟨rfl, ⟨hm, ?_⟩, ?_⟩
  · exact (HB.out.set_ 1 (.bool true)).alloc _
  · exact Only.to_grown (((Only.refl (· = g) w).setCell (p := ⟨g, 1, none⟩) (.inl rfl) _).alloc _)
theorem curTake_st {o : Option Pl.Ev} {f : List UInt8 → List UInt8 → Option Pl.Ev} (g n : Nat) (l : List UInt8) (bad : Bool) (w : World) (h : Cur w g l bad) (hn : n ≤ 281474976710656) (hs : Pl.St o bad (Pl.bt n l f)) :
    Calls Tryd.prog 32 #[.pointer (some ⟨g, 0, none⟩), .int .i64 n] w fun e w' => ∃ t l' bad', e = .returned (.string (tstr t)) ∧ t.length = n ∧ Cur w' g l' bad' ∧ w.grownBy w' (some g) ∧ Pl.St o bad' (f t l') := by
  by_cases hl : n ≤ l.length
  · refine (curTake_enough g n l bad w h hl).mono ?_
    rintro e w' ⟨rfl, h1, h2⟩
    refine ⟨l.take n, l.drop n, bad, rfl, by rw [List.length_take]; omega, h1, h2, ?_⟩
    have := hs.take
    rwa [decide_eq_false (by omega), Bool.or_false] at this
  · refine (curTake_short g n l bad w h (by omega) hn).mono ?_
    rintro e w' ⟨rfl, h1, h2⟩
    exact ⟨_, l, true, rfl, List.length_replicate, h1, h2, hs.short (by omega) _⟩
theorem curNum_st {o : Option Pl.Ev} {f : List UInt8 → List UInt8 → Option Pl.Ev} (g n : Nat) (l : List UInt8) (bad : Bool) (w : World) (h : Cur w g l bad) (hn : n ≤ 7) (hs : Pl.St o bad (Pl.bt n l f)) :
    Calls Tryd.prog 31 #[.pointer (some ⟨g, 0, none⟩), .int .i64 n] w fun e w' => ∃ t l' bad', e = .returned (.int .i64 (Pl.num t : Nat)) ∧ Pl.num t < 256 ^ n ∧ Cur w' g l' bad' ∧ w.grownBy w' (some g) ∧ Pl.St o bad' (f t l') := by
  have HS := Lib.hid hs
  clear hs
  go_enter Tryd.func31, Tryd.ntmps31
  go_wp2_with fail
  refine (curTake_st g n l bad w h (by omega) HS.out).mono ?_
  rintro e w1 ⟨t, l', b', rfl, ht, hC, hg, hs1⟩
  have hlt := Pl.num_lt t
  rw [ht] at hlt
  have hlt2 : Pl.num t < 72057594037927936 := Nat.lt_of_lt_of_le hlt (Nat.pow_le_pow_right (n := 256) (j := 7) (by decide) hn)
  have HLT := Lib.hid hlt
  have HS1 := Lib.hid hs1
  have HN := number_any (tstr t) w1 (by rw [tstr_size]; omega)
  rw [tstr_list] at HN
  clear hlt hs1 ht
  go_wp2_with fail
  refine HN.mono ?_
  rintro e w' ⟨rfl, rfl⟩
  clear HN
  go_wp2_with fail
  go_ret
  exact ⟨t, l', b', rfl, HLT.out, hC, hg, HS1.out⟩
end Go.Proofs.YtljmklohgpaopaaDoor

namespace Go.Proofs.YtljmklohgpaopaaDoor
open Go.RowKit

theorem sectors_any (g : Nat) (v : Value) (d : Pl.Dk) (rd : Int) (w : World) (h : DiskAt w g v d rd) :
    Calls Tryd.prog 37 #[.pointer (some ⟨g, 0, none⟩)] w fun e w' => e = .returned (.int .i64 (d.secs.length : Nat)) ∧ w = w' := by
  obtain ⟨wr, sy, hb⟩ := h.blk
  obtain ⟨A, cap, rfl, _⟩ := own_src h.own
  obtain ⟨c0, c1, c2, c3, c4, f0, f1, f2, f3, f4⟩ := facts5 hb
  clear h hb
  go_enter Tryd.func37, Tryd.ntmps37
  go_wp2_with fail
  go_ret
  exact ⟨rfl, rfl⟩

theorem dead_any (g : Nat) (v : Value) (d : Pl.Dk) (rd : Int) (w : World) (h : DiskAt w g v d rd) :
    Calls Tryd.prog 61 #[.pointer (some ⟨g, 0, none⟩)] w fun e w' => e = .returned (.bool (d.life == 0)) ∧ w = w' := by
  obtain ⟨wr, sy, hb⟩ := h.blk
  obtain ⟨c0, c1, c2, c3, c4, f0, f1, f2, f3, f4⟩ := facts5 hb
  clear h hb
  go_enter Tryd.func61, Tryd.ntmps61
  go_wp2_with fail
  go_ret
  exact ⟨rfl, rfl⟩

theorem changes_any (g : Nat) (v : Value) (d : Pl.Dk) (rd : Int) (w : World) (h : DiskAt w g v d rd) :
    Calls Tryd.prog 108 #[.pointer (some ⟨g, 0, none⟩)] w fun e w' => e = .returned (.bool d.alive) ∧ DiskAt w' g v d.tick rd ∧ Only (· = g) w w' := by
  obtain ⟨wr, sy, hb⟩ := h.blk
  obtain ⟨c0, c1, c2, c3, c4, f0, f1, f2, f3, f4⟩ := facts5 hb
  obtain ⟨secs, life⟩ := d
  have hlf := h.life
  simp only at hlf c1 hb
  have H := Lib.hid h
  have HB := Lib.hid hb
  clear h hb
  by_cases h0 : life = 0
  · subst h0
    go_enter Tryd.func108, Tryd.ntmps108
    go_wp2_with fail
    go_ret
    exact ⟨rfl, H.out, Only.refl _ _⟩
  · have q0 : (life == 0) = false := by simp [h0]
    by_cases h1 : 0 < life
    · have ht : Hid (Pl.Dk.tick ⟨secs, life⟩ = ⟨secs, life - 1⟩) := by rw [Hid]; unfold Pl.Dk.tick; rw [if_pos h1]
      have hw : IntKind.i64.wrap (life - 1) = life - 1 := IntWalk.i64_in _ (by omega)
      have hd := Only.setCell (Only.refl (· = g) w) (p := ⟨g, 1, none⟩) (.inl rfl) (.int .i64 (life - 1))
      have HD := Lib.hid hd
      have hal : Hid (Pl.Dk.alive ⟨secs, life⟩ = decide (0 < life - 1)) := by
        rw [Hid]; unfold Pl.Dk.alive
        by_cases h2 : 0 < life - 1
        · rw [decide_eq_true h2]; simp; omega
        · rw [decide_eq_false h2]; simp; omega
      have HL := Lib.hid hlf
      clear hd hw h0
      go_enter Tryd.func108, Tryd.ntmps108
      go_wp2_with fail
      go_ret
      rw [hal.out, ht.out]
      refine ⟨?_, H.out.ofHead HD.out _ _ wr sy (by have := HL.out; omega) (HB.out.set_ 1 _), HD.out⟩
      simp
      try omega
    · have ht : Hid (Pl.Dk.tick ⟨secs, life⟩ = ⟨secs, life⟩) := by rw [Hid]; unfold Pl.Dk.tick; rw [if_neg h1]
      have hal : Hid (Pl.Dk.alive ⟨secs, life⟩ = true) := by rw [Hid]; unfold Pl.Dk.alive; simp; omega
      clear h0
      go_enter Tryd.func108, Tryd.ntmps108
      go_wp2_with fail
      go_ret
      rw [hal.out, ht.out]
      exact ⟨rfl, H.out, Only.refl _ _⟩

/-- What a read brings: nothing, if the disk is dead or the sector broken. -/
def readOf (d : Pl.Dk) (i : Nat) : Option (List UInt8) := if d.life = 0 then none else d.look i
set_option maxHeartbeats 1000000 in
theorem read_any (g : Nat) (v : Value) (d : Pl.Dk) (rd : Int) (i : Nat) (w : World) (h : DiskAt w g v d rd) (hi : i < d.secs.length) :
    Calls Tryd.prog 89 #[.pointer (some ⟨g, 0, none⟩), .int .i64 (i : Nat)] w fun e w' => e = .returned (.tuple #[.string (tstr ((readOf d i).getD [])), .bool (readOf d i).isSome]) ∧
      (∃ rd', DiskAt w' g v d rd' ∧ (0 ≤ rd → rd < 4611686018427387904 → 0 ≤ rd' ∧ rd' ≤ rd + 1)) ∧ Only (· = g) w w' := by
  obtain ⟨wr, sy, hb⟩ := h.blk
  obtain ⟨s, hs⟩ : ∃ s, d.secs[i]? = some s := ⟨_, List.getElem?_eq_getElem hi⟩
  obtain ⟨b, cap, rfl, hbg, s0, s1, s2, s3, s4, sf⟩ := h.sec hs
  obtain ⟨c0, c1, c2, c3, c4, f0, f1, f2, f3, f4⟩ := facts5 hb
  obtain ⟨secs, life⟩ := d
  have hmost := h.most
  simp only at c1 hb hi hs c0 hmost
  have H := Lib.hid h
  have HB := Lib.hid hb
  have HS := Lib.hid hs
  clear h hb hs s1 s3 s4
  obtain ⟨n, hn⟩ : ∃ n, secs.length = n := ⟨_, rfl⟩
  rw [hn] at hi hmost c0
  have HN := Lib.hid hn
  have hni : ¬ (n : Int) ≤ i := by omega
  clear hn
  by_cases h0 : life = 0
  · subst h0
    go_enter Tryd.func89, Tryd.ntmps89
    go_wp2_with fail
    go_ret2
    exact ⟨by simp [readOf]; rfl, ⟨rd, H.out, fun h1 h2 => ⟨h1, by omega⟩⟩, Only.refl _ _⟩
  · have q0 : (life == 0) = false := by simp [h0]
    have HL := Lib.hid h0
    have hro : Hid (readOf ⟨secs, life⟩ i = if s.broken then none else some s.now) := by
      rw [Hid]; unfold readOf Pl.Dk.look; rw [if_neg h0]; simp only [HS.out]
    obtain ⟨rd', hrd, hrd2⟩ : ∃ rd', IntKind.i64.wrap (rd + 1) = rd' ∧ (0 ≤ rd → rd < 4611686018427387904 → 0 ≤ rd' ∧ rd' ≤ rd + 1) := ⟨_, rfl, fun h1 h2 => by rw [IntWalk.i64_in _ (by omega)]; omega⟩
    have HRD := Lib.hid hrd2
    have hd := fun x => Only.setCell (Only.refl (· = g) w) (p := ⟨g, 2, none⟩) (.inl rfl) (.int .i64 x)
    have HD := Lib.hid hd
    clear hd h0 hrd2
    rw [hro.out]
    cases hbr : s.broken
    all_goals
      rw [hbr] at s2
      clear hbr
      go_enter Tryd.func89, Tryd.ntmps89
      go_wp2_with fail
      go_ret2
      refine ⟨rfl, ⟨_, H.out.ofHead (HD.out _) _ _ wr sy H.out.life (HB.out.set_ 2 _), ?_⟩, HD.out _⟩
      exact fun h1 h2 => HRD.out h1 h2

/-- A text that is laid into a sector. -/
theorem put_sized (s : Pl.Sec) (t : List UInt8) (ht : t.length ≤ 256) (hs : s.safe.length = 256) : (s.put t).now.length = 256 ∧ (s.put t).safe.length = 256 := by
  refine ⟨?_, hs⟩
  simp [Pl.Sec.put, Pl.zeros]
  omega
theorem on_wr (l : List Pl.Sec) (i : Nat) (s : Pl.Sec) (t : List UInt8) (hs : l[i]? = some s) : Pl.Ch.on (.wr i t) l = l.set i (s.put t) := by
  simp only [Pl.Ch.on]
  apply List.ext_getElem?
  intro k
  rw [List.getElem?_modify, List.getElem?_set]
  by_cases h : i = k
  · subst h
    have hi : i < l.length := (List.getElem?_eq_some_iff.1 hs).1
    have he := (List.getElem?_eq_some_iff.1 hs).2
    simp [hi, he]
  · simp [h]
theorem below_size {w : World} (o : Obj) (p : Addr) (u : Value) : ((w.setCell p u).alloc o).heap.size = w.heap.size + 1 := by simp [World.setCell]

set_option maxHeartbeats 2000000 in
set_option maxRecDepth 100000 in
theorem dwrite_any (g : Nat) (v : Value) (d : Pl.Dk) (rd : Int) (i : Nat) (t : List UInt8) (w : World) (h : DiskAt w g v d rd) (hi : i < d.secs.length) (ht : t.length ≤ 256) :
    Calls Tryd.prog 92 #[.pointer (some ⟨g, 0, none⟩), .int .i64 (i : Nat), .string (tstr t)] w fun e w' => e = .returned (.bool d.alive) ∧ DiskAt w' g v (d.change (.wr i t)) rd ∧ Only (dF g v) w w' := by
  have hmost := h.most
  have htz := tstr_size t
  obtain ⟨z, hz⟩ : ∃ z, tstr t = z := ⟨_, rfl⟩
  have HZ := Lib.hid hz
  rw [hz] at htz ⊢
  have HH := Lib.hid h
  obtain ⟨n, hn⟩ : ∃ n, d.secs.length = n := ⟨_, rfl⟩
  rw [hn] at hi hmost
  have HN := Lib.hid hn
  have hni : ¬ (n : Int) ≤ i := by omega
  have htz' : ¬ (256 : Int) < (z.size : Int) := by omega
  have q1 : decide ((i : Int) < 0) = false := decide_eq_false (by omega)
  have q2 : decide ((n : Int) ≤ i) = false := decide_eq_false hni
  have q2' : decide (n ≤ i) = false := decide_eq_false (by omega)
  have q3 : decide ((256 : Int) < (z.size : Int)) = false := decide_eq_false htz'
  have HTZ := Lib.hid htz
  have HT := Lib.hid ht
  clear hz hn h htz
  go_enter Tryd.func92, Tryd.ntmps92
  go_wp2_with fail
  refine (changes_any g v d rd w HH.out).mono ?_
  rintro e w1 ⟨rfl, h1, ho1⟩
  have H1 := Lib.hid h1
  have O1 := Lib.hid ho1
  have htk : d.tick.secs = d.secs := rfl
  obtain ⟨s, hs⟩ : ∃ s, d.tick.secs[i]? = some s := ⟨_, List.getElem?_eq_getElem (by rw [htk, HN.out]; exact hi)⟩
  obtain ⟨b, cap, rfl, hbg, s0, s1, s2, s3, s4, sf⟩ := h1.sec hs
  obtain ⟨wr, sy, hb⟩ := h1.blk
  obtain ⟨c0, c1, c2, c3, c4, f0, f1, f2, f3, f4⟩ := facts5 hb
  have hlen : d.tick.secs.length = n := by rw [htk]; exact HN.out
  rw [hlen] at c0
  have HB := Lib.hid hb
  have HS := Lib.hid hs
  have HLEN := Lib.hid hlen
  have hk : ∀ (zs : Array Value) (X : Value), ((w1.setCell ⟨g, 3, none⟩ X).alloc (.cells zs 5)).ownsRow 0 92 5 (.slice (some ⟨b, 0, none⟩) n cap) n (secsCells d.tick.secs) := by
    intro zs X
    have := Only.own (((Only.refl (· = g) w1).setCell (p := ⟨g, 3, none⟩) (.inl rfl) X).alloc (.cells zs 5)) h1.own (fun k hk e => h1.far (by rw [hk, e]))
    rwa [hlen] at this
  have hk1 : ∀ (zs : Array Value) (X : Value), DiskAt ((w1.setCell ⟨g, 3, none⟩ X).alloc (.cells zs 5)) g (.slice (some ⟨b, 0, none⟩) d.tick.secs.length cap) d.tick rd ∨ True := fun _ _ => .inr trivial
  have HK := Lib.hid hk
  clear h1 ho1 hb hs htk hlen s0 s1 s2 s3 s4 sf hk hk1
  cases hal : d.alive
  · have hch : d.change (.wr i t) = d.tick := by unfold Pl.Dk.change; rw [hal]; rfl
    have HCH := Lib.hid hch
    have HAL := Lib.hid hal
    clear hal hch
    go_wp2_with fail
    go_ret
    rw [HCH.out, HAL.out]
    exact ⟨rfl, H1.out, O1.out.mono (fun _ _ h => .inl h)⟩
  · have hch : d.change (.wr i t) = ⟨d.tick.secs.set i (s.put t), d.tick.life⟩ := by unfold Pl.Dk.change; rw [hal, if_pos rfl, ← on_wr _ i s t HS.out]; rfl
    have HCH := Lib.hid hch
    have HAL := Lib.hid hal
    have hmk := make_bytes (256 - (z.size : Int)) (256 - t.length) (by have := HTZ.out; omega) (by omega)
    have hcv : ∀ X, (convert 23 9 (.slice (some ⟨w1.heap.size, 0, none⟩) (256 - t.length : Nat) (256 - t.length : Nat))).run Tryd.prog ((w1.setCell ⟨g, 3, none⟩ X).alloc (.cells (zrow (256 - t.length)).toArray 5)) =
        .ok (.string (tstr (Pl.zeros (256 - t.length)))) ((w1.setCell ⟨g, 3, none⟩ X).alloc (.cells (zrow (256 - t.length)).toArray 5)) := by
      intro X
      have := run_tostr ((w1.setCell ⟨g, 3, none⟩ X).alloc (.cells (zrow (256 - t.length)).toArray 5)) (some ⟨(w1.setCell ⟨g, 3, none⟩ X).heap.size, 0, none⟩) (List.replicate (256 - t.length) 0) (256 - t.length) (zeros_at _ _)
      rw [List.length_replicate, show (w1.setCell ⟨g, 3, none⟩ X).heap.size = w1.heap.size by simp [World.setCell]] at this
      exact this
    have hcat := fun w => run_cat w t (Pl.zeros (256 - t.length)) (by simp [Pl.zeros]; omega)
    obtain ⟨zs, hzs⟩ : ∃ zs, (zrow (256 - t.length)).toArray = zs := ⟨_, rfl⟩
    obtain ⟨zt, hzt⟩ : ∃ zt, tstr (Pl.zeros (256 - t.length)) = zt := ⟨_, rfl⟩
    obtain ⟨zz, hzz⟩ : ∃ zz, tstr (t ++ Pl.zeros (256 - t.length)) = zz := ⟨_, rfl⟩
    have HZZ := Lib.hid hzz
    obtain ⟨m, hm⟩ : ∃ m, 256 - t.length = m := ⟨_, rfl⟩
    rw [hzs] at hmk hcv
    rw [hzt] at hcv hcat
    rw [hzz, HZ.out] at hcat
    rw [hm] at hmk hcv
    have k0 := fun X => (own_sec (HK.out zs X) HLEN.out HS.out).1
    have k2 := fun X => (own_sec (HK.out zs X) HLEN.out HS.out).2.2.1
    have k4 := fun X => (own_sec (HK.out zs X) HLEN.out HS.out).2.2.2.2.1
    have kf := fun X => (own_sec (HK.out zs X) HLEN.out HS.out).2.2.2.2.2
    clear hal hch hzs hzt hzz hm
    go_wp2_with fail
    go_ret
    rw [HCH.out, HAL.out]
    have hW : DiskAt ((w1.setCell ⟨g, 3, none⟩ (.int .i64 (wrap64 (wr + 1)))).alloc (.cells zs 5)) g (.slice (some ⟨b, 0, none⟩) d.tick.secs.length cap) d.tick rd :=
      (H1.out.ofHead ((Only.refl (· = g) w1).setCell (p := ⟨g, 3, none⟩) (.inl rfl) _) d.tick.life rd _ sy H1.out.life (HB.out.set_ 3 _)).below ((Below.refl _ _).alloc (Nat.le_refl _) _)
    have hO : Only (dF g (.slice (some ⟨b, 0, none⟩) d.tick.secs.length cap)) w ((w1.setCell ⟨g, 3, none⟩ (.int .i64 (wrap64 (wr + 1)))).alloc (.cells zs 5)) :=
      ((O1.out.mono (fun _ _ h => .inl h)).setCell (p := ⟨g, 3, none⟩) (.inl (.inl rfl)) _).alloc _
    obtain ⟨r1, r2⟩ := hW.sets HS.out (s.put t) (put_sized s t HT.out (H1.out.sized s (List.mem_of_getElem? HS.out)).2) [(0, .string zz), (2, .bool false), (4, .bool true)] (by simp) (by rw [← HZZ.out]; rfl)
    have hl : (Value.slice (some ⟨b, 0, none⟩) (d.tick.secs.set i (s.put t)).length cap) = .slice (some ⟨b, 0, none⟩) d.tick.secs.length cap := by rw [List.length_set]
    exact ⟨rfl, r1, hO.trans r2 (fun k _ hk => .inr (by rw [hk]; rfl))⟩

theorem set_self {α : Type} {l : List α} {i : Nat} {x : α} (h : l[i]? = some x) : l.set i x = l := by
  apply List.ext_getElem?
  intro k
  rw [List.getElem?_set]
  by_cases hk : i = k
  · subst hk
    rw [if_pos rfl, if_pos (List.getElem?_eq_some_iff.1 h).1, h]
  · rw [if_neg hk]
theorem flush_sized (s : Pl.Sec) (h : s.now.length = 256 ∧ s.safe.length = 256) : s.flush.now.length = 256 ∧ s.flush.safe.length = 256 := by
  unfold Pl.Sec.flush
  split
  · exact ⟨h.1, h.1⟩
  · exact h
theorem flush_step (l : List Pl.Sec) (k : Nat) (s : Pl.Sec) (hs : l[k]? = some s) : ((l.take k).map Pl.Sec.flush ++ l.drop k)[k]? = some s ∧ ((l.take k).map Pl.Sec.flush ++ l.drop k).set k s.flush = (l.take (k + 1)).map Pl.Sec.flush ++ l.drop (k + 1) := by
  have hk : k < l.length := (List.getElem?_eq_some_iff.1 hs).1
  have he : l[k] = s := (List.getElem?_eq_some_iff.1 hs).2
  have hl : ((l.take k).map Pl.Sec.flush).length = k := by simp; omega
  constructor
  · rw [List.getElem?_append_right (by omega), hl, Nat.sub_self, List.drop_eq_getElem_cons hk, he]; rfl
  · rw [List.set_append_right _ _ (by omega), hl, Nat.sub_self, List.drop_eq_getElem_cons hk, he, List.set_cons_zero, List.take_succ_eq_append_getElem hk, he]
    simp

set_option maxHeartbeats 2000000 in
set_option maxRecDepth 100000 in
theorem dsync_any (g : Nat) (v : Value) (d : Pl.Dk) (rd : Int) (w : World) (h : DiskAt w g v d rd) :
    Calls Tryd.prog 93 #[.pointer (some ⟨g, 0, none⟩)] w fun e w' => e = .returned (.bool d.alive) ∧ DiskAt w' g v (d.change .sy) rd ∧ Only (dF g v) w w' := by
  have hmost := h.most
  have HH := Lib.hid h
  obtain ⟨n, hn⟩ : ∃ n, d.secs.length = n := ⟨_, rfl⟩
  rw [hn] at hmost
  have HN := Lib.hid hn
  clear hn h
  go_enter Tryd.func93, Tryd.ntmps93
  go_wp2_with fail
  refine (changes_any g v d rd w HH.out).mono ?_
  rintro e w1 ⟨rfl, h1, ho1⟩
  have H1 := Lib.hid h1
  have O1 := Lib.hid ho1
  obtain ⟨wr, sy, hb⟩ := h1.blk
  obtain ⟨A, cap, rfl, _, _, hAown⟩ := own_src h1.own
  have hlen : d.tick.secs.length = n := HN.out
  rw [hlen] at hb
  obtain ⟨c0, c1, c2, c3, c4, f0, f1, f2, f3, f4⟩ := facts5 hb
  have HB := Lib.hid hb
  have HLEN := Lib.hid hlen
  have htk : Hid (d.tick.secs = d.secs) := rfl
  have HA := Lib.hid hAown
  clear h1 ho1 hb hlen hAown
  cases hal : d.alive
  · have hch : d.change .sy = d.tick := by unfold Pl.Dk.change; rw [hal]; rfl
    have HCH := Lib.hid hch
    have HAL := Lib.hid hal
    clear hal hch
    go_wp2_with fail
    go_ret
    rw [HCH.out, HAL.out]
    exact ⟨rfl, H1.out, O1.out.mono (fun _ _ h => .inl h)⟩
  · have hch : d.change .sy = ⟨d.secs.map Pl.Sec.flush, d.tick.life⟩ := by unfold Pl.Dk.change; rw [hal, if_pos rfl]; rfl
    have HCH := Lib.hid hch
    have HAL := Lib.hid hal
    have hd2 : ∀ X : Int, DiskAt (w1.setCell ⟨g, 4, none⟩ (.int .i64 X)) g (.slice A d.tick.secs.length cap) ⟨d.secs, d.tick.life⟩ rd := fun X =>
      H1.out.ofHead ((Only.refl (· = g) w1).setCell (p := ⟨g, 4, none⟩) (.inl rfl) _) d.tick.life rd wr X H1.out.life (by rw [HLEN.out]; exact HB.out.set_ 4 _)
    have HD2 := Lib.hid hd2
    obtain ⟨lf, hlf⟩ : ∃ lf, d.tick.life = lf := ⟨_, rfl⟩
    have HLF := Lib.hid hlf
    clear hal hch hd2 hlf
    go_wp2_with fail
    go_loopw [4] (fun i W => ∃ k : Nat, k ≤ n ∧ i = .int .i64 (k : Int) ∧ Hid (DiskAt W g (.slice A d.tick.secs.length cap) ⟨(d.secs.take k).map Pl.Sec.flush ++ d.secs.drop k, lf⟩ rd) ∧ Hid (Only (dF g (.slice A d.tick.secs.length cap)) w W)) (fun i _ => n - (intOf i).toNat)
    case atStart => exact ⟨0, Nat.zero_le _, rfl, by rw [← HLF.out]; exact HD2.out _, (O1.out.mono (fun _ _ h => .inl h)).setCell (p := ⟨g, 4, none⟩) (.inl (.inl rfl)) _⟩
    case round =>
      obtain ⟨k, hk, rfl, HD, HO⟩ := hrel
      have hlk : ((d.secs.take k).map Pl.Sec.flush ++ d.secs.drop k).length = n := by rw [List.length_append, List.length_map, List.length_take, List.length_drop, HN.out]; omega
      have HLK := Lib.hid hlk
      clear hlk
      obtain ⟨wr', sy', hb'⟩ := HD.out.blk
      rw [HLEN.out] at hb'
      obtain ⟨e0, e1, e2, e3, e4, g0, g1, g2, g3, g4⟩ := facts5 hb'
      clear hb' e1 e2 e3 e4 g0 g1 g2 g3 g4
      by_cases hkn : k < n
      · obtain ⟨s, hs⟩ : ∃ s, d.secs[k]? = some s := ⟨_, List.getElem?_eq_getElem (by rw [HN.out]; exact hkn)⟩
        obtain ⟨hs1, hs2⟩ := flush_step d.secs k s hs
        obtain ⟨b, cap', hv, hbg, s0, s1, s2, s3, s4, sf⟩ := HD.out.sec hs1
        injection hv with hA1 hA2 hA3
        subst hA1
        subst hA3
        have HS1 := Lib.hid hs1
        have HS2 := Lib.hid hs2
        have hsz := Lib.hid (HH.out.sized s (List.mem_of_getElem? hs))
        clear hs hs1 hs2 hA2 s2
        cases hfr : s.fresh
        · rw [hfr] at s4
          have hfl : s.flush = s := by unfold Pl.Sec.flush; rw [hfr]; rfl
          have HFL := Lib.hid hfl
          clear hfl hfr
          go_wp2_with fail
          refine ⟨⟨k + 1, by omega, by go_num, ?_, HO.out⟩, by simp [intOf]; omega⟩
          rw [Hid, ← HS2.out, HFL.out, set_self HS1.out]
          exact HD.out
        · rw [hfr] at s4
          have hfl : s.flush = ⟨s.now, s.now, s.broken, false, false⟩ := by unfold Pl.Sec.flush; rw [hfr, if_pos rfl]
          have HFL := Lib.hid hfl
          clear hfl hfr
          go_wp2_with fail
          have HD3 := HD.out
          have hln : d.tick.secs.length = ((d.secs.take k).map Pl.Sec.flush ++ d.secs.drop k).length := by rw [HLK.out, HLEN.out]
          rw [hln] at HD3
          have he : [(1, Value.string (tstr s.now)), (3, Value.bool false), (4, Value.bool false)].foldl (fun xs p => xs.set p.1 p.2) (secCells s) = secCells s.flush := by rw [HFL.out]; rfl
          obtain ⟨r1, r2⟩ := DiskAt.sets (d := ⟨(d.secs.take k).map Pl.Sec.flush ++ d.secs.drop k, lf⟩) (i := k) (s := s) HD3 HS1.out s.flush (flush_sized s hsz.out) _ (by simp) he
          refine ⟨⟨k + 1, by omega, by go_num, ?_, HO.out.trans r2 (fun k _ hk => .inr (by rw [hk]; rfl))⟩, by simp [intOf]; omega⟩
          rw [HS2.out, ← hln] at r1
          exact r1
      · obtain rfl : k = n := by omega
        go_wp2_with fail
        go_ret
        rw [HCH.out, HAL.out, HLF.out]
        refine ⟨rfl, ?_, HO.out⟩
        have := HD.out
        rw [← HN.out, List.take_length, List.drop_length, List.append_nil] at this
        exact this
end Go.Proofs.YtljmklohgpaopaaDoor

namespace Go.Proofs.YtljmklohgpaopaaDoor
open Go.RowKit

def faultV (v : Value) : Value := .iface 128 (.agg #[v])
def faultE (v : Value) : PanicEntry := { v := faultV v, recovered := false }

theorem run_assert_fault (v : Value) (w : World) : (Instr.typeAssert (.iface 128 v) 20 128 true).run Tryd.prog w = .ok (.tuple #[v, .bool true]) w := by
  simp [Instr.typeAssert, run_underlying Tryd.underlying128, go_sem, Result.andThen]

set_option maxHeartbeats 1000000 in
theorem walCatch_panicking (p : Addr) (T : TypeId) (y : Value) (older : List PanicEntry) (w : World) (hc : w.cell? p = some .nilIface) (hz : w.frozen? p = false) :
    CallsD Tryd.prog 88 #[.pointer (some p)] (.panicking (faultE (.iface T y) :: older)) w fun e u' w' =>
      e = .returned (.tuple #[]) ∧ u' = .panicking ({ v := faultV (.iface T y), recovered := true } :: older) ∧ w' = (w.alloc (.cells #[.iface T y] 128)).setCell p (.iface T y) := by
  have hb := (Below.refl w.heap.size w).alloc (Nat.le_refl _) (.cells #[.iface T y] 128)
  have hlt := World.block_lt_of_cell? _ _ hc
  have hc' := (hb.cell hlt).trans hc
  have hz' := (hb.frozen hlt).trans hz
  clear hb
  refine callsD_of_wpS Tryd.func88 rfl fun c₀ cs hu => ?_
  unfold faultE faultV at hu
  apply wpS_seq
  apply wpS_region
  simp [wpOpsS, go_sem, recoverD, hu, Tryd.ntmps88, Exit.thenS]
  apply wpS_seq
  apply wpS_region
  simp [wpOpsS, go_sem, Exit.thenS]
  refine wpS_cond (t := true) (by simp [Act.eval, Array.replicate]) ?_
  simp only [if_true]
  apply wpS_seq
  apply wpS_region
  simp [wpOpsS, go_sem, Exit.thenS, run_assert_fault]
  apply wpS_seq
  apply wpS_seq
  apply wpS_region
  simp [wpOpsS, go_sem, Exit.thenS]
  refine wpS_cond (t := false) (by simp [Act.eval, Array.replicate]) ?_
  simp only [Bool.false_eq_true, if_false]
  refine wpS_of_wp (wp_skip ?_)
  simp only [Exit.thenS]
  apply wpS_region
  simp [wpOpsS, go_sem, hc', hz', bodyPostS, results, Tryd.results88]
  rfl

set_option maxHeartbeats 1000000 in
theorem walCatch_idle (p : Addr) (w : World) :
    CallsD Tryd.prog 88 #[.pointer (some p)] .returning w fun e u' w' => e = .returned (.tuple #[]) ∧ u' = .returning ∧ w' = w := by
  refine callsD_of_wpS Tryd.func88 rfl fun c₀ cs hu => ?_
  apply wpS_seq
  apply wpS_region
  simp [wpOpsS, go_sem, recoverD, hu, Tryd.ntmps88, Exit.thenS]
  apply wpS_seq
  apply wpS_region
  simp [wpOpsS, go_sem, Exit.thenS]
  refine wpS_cond (t := false) (by simp [Act.eval, Array.replicate]) ?_
  simp only [Bool.false_eq_true, if_false]
  refine wpS_of_wp (wp_skip ?_)
  cases c₀
  simp_all [bodyPostS, results, Tryd.results88]

set_option maxRecDepth 100000 in
/-- A call that is guarded: the body's end, told by Q (nothing, or the fault's error); the error's cell lies at the world's end. -/
theorem guarded_any (K : FuncId) (caps : Array Value) (w : World) (Q : Option Value → World → Prop) (hK : ∀ W, (callFunc K caps).run Tryd.prog W = .ok (.enter K caps) W)
    (h : Calls Tryd.prog K caps (w.alloc (.cells #[.nilIface] 70)) fun e w' => Blk w' w.heap.size 70 [.nilIface] ∧ ((e = .returned (.tuple #[]) ∧ Q none w') ∨ ∃ T y, e = .panicked [faultE (.iface T y)] ∧ Q (some (.iface T y)) w')) :
    Calls Tryd.prog 59 #[.func (.func K) #[] caps] w fun e w'' => ∃ o w', Q o w' ∧ Only (· = w.heap.size) w' w'' ∧ e = .returned (o.getD .nilIface) := by
  have hmf : ∀ (fn : Fn) (first cap : Array Value) (w : World), (Instr.makeFunc fn first cap).run Tryd.prog w = .ok (.func fn first cap) w := fun _ _ _ _ => rfl
  have H := Lib.hid h
  clear h
  go_enter_defers Tryd.func59, Tryd.ntmps59
  go_wp2_with fail
  refine H.out.mono ?_
  rintro e w' ⟨hB, ⟨rfl, hQ⟩ | ⟨T, y, rfl, hQ⟩⟩
  · have hc := hB.cell 0
    have hf := hB.frozen 0
    simp only [List.getElem?_cons_zero] at hc
    have HB := Lib.hid hB
    have HQ := Lib.hid hQ
    clear hB hQ H
    go_wp2_with fail
    refine leaves_cons (f := 88) (args := #[.pointer (some ⟨w.heap.size, 0, none⟩)]) (by simp) (by simp [go_sem]) ?_
    refine (walCatch_idle ⟨w.heap.size, 0, none⟩ _).mono ?_
    rintro e u' w'' ⟨rfl, rfl, rfl⟩
    have hc2 := (HB.out.set_ 0 .nilIface).cell 0
    simp only [List.set_cons_zero, List.getElem?_cons_zero] at hc2
    simp [Leaves, settle, results, Tryd.results59, go_sem]
    rw [hc2]
    exact ⟨_, rfl, none, w', HQ.out, (Only.refl (· = w.heap.size) w').setCell (p := ⟨w.heap.size, 0, none⟩) (.inl rfl) _, rfl⟩
  · have hc := hB.cell 0
    have hf := hB.frozen 0
    simp only [List.getElem?_cons_zero] at hc
    have HQ := Lib.hid hQ
    clear hQ H
    go_wp2_with fail
    refine leaves_cons (f := 88) (args := #[.pointer (some ⟨w.heap.size, 0, none⟩)]) (by simp) (by simp [go_sem]) ?_
    refine (walCatch_panicking ⟨w.heap.size, 0, none⟩ T y [] _ hc hf).mono ?_
    rintro e u' w'' ⟨rfl, rfl, rfl⟩
    have hc2 := ((hB.alloc (.cells #[.iface T y] 128)).set_ 0 (.iface T y)).cell 0
    simp only [List.set_cons_zero, List.getElem?_cons_zero] at hc2
    simp [Leaves, settle, results, Tryd.results59, go_sem]
    rw [hc2]
    exact ⟨_, rfl, some (.iface T y), w', HQ.out, ((Only.refl (· = w.heap.size) w').alloc _).setCell (p := ⟨w.heap.size, 0, none⟩) (.inl rfl) _, rfl⟩

def kindE (k : Nat) : Value := .iface 25 (.int .i64 (k : Int))
/-- The panic that tells a kind. -/
def died (k : Nat) : Ending := .panicked [faultE (kindE k)]

/-- How a call without a result ends: well, or by a panic that tells a kind. -/
def Ends (ok : Bool) (k : Nat) (e : Ending) : Prop := (ok = true ∧ e = .returned (.tuple #[])) ∨ (ok = false ∧ e = died k)
theorem Ends.good (k : Nat) : Ends true k (.returned (.tuple #[])) := .inl ⟨rfl, rfl⟩
theorem Ends.no (k : Nat) : Ends false k (died k) := .inr ⟨rfl, rfl⟩

set_option maxHeartbeats 1000000 in
theorem wwrite_any (g : Nat) (v : Value) (d : Pl.Dk) (rd : Int) (i : Nat) (t : List UInt8) (w : World) (h : DiskAt w g v d rd) (hi : i < d.secs.length) (ht : t.length ≤ 256) :
    Calls Tryd.prog 67 #[.pointer (some ⟨g, 0, none⟩), .int .i64 (i : Nat), .string (tstr t)] w fun e w' => Ends d.alive 3 e ∧ DiskAt w' g v (d.change (.wr i t)) rd ∧ Only (dF g v) w w' := by
  have H := Lib.hid (dwrite_any g v d rd i t w h hi ht)
  clear h hi ht
  go_enter Tryd.func67, Tryd.ntmps67
  go_wp2_with fail
  refine H.out.mono ?_
  rintro e w1 ⟨rfl, h1, h2⟩
  have H1 := Lib.hid h1
  have H2 := Lib.hid h2
  clear h1 h2 H
  cases hal : d.alive
  all_goals
    have HAL := Lib.hid hal
    clear hal
    go_wp2_with fail
  · exact ⟨rfl, by rw [HAL.out]; exact Ends.no 3, H1.out, H2.out⟩
  · go_end0
    exact ⟨by rw [HAL.out]; exact Ends.good 3, H1.out, H2.out⟩

set_option maxHeartbeats 1000000 in
theorem wsync_any (g : Nat) (v : Value) (d : Pl.Dk) (rd : Int) (w : World) (h : DiskAt w g v d rd) :
    Calls Tryd.prog 68 #[.pointer (some ⟨g, 0, none⟩)] w fun e w' => Ends d.alive 3 e ∧ DiskAt w' g v (d.change .sy) rd ∧ Only (dF g v) w w' := by
  have H := Lib.hid (dsync_any g v d rd w h)
  clear h
  go_enter Tryd.func68, Tryd.ntmps68
  go_wp2_with fail
  refine H.out.mono ?_
  rintro e w1 ⟨rfl, h1, h2⟩
  have H1 := Lib.hid h1
  have H2 := Lib.hid h2
  clear h1 h2 H
  cases hal : d.alive
  all_goals
    have HAL := Lib.hid hal
    clear hal
    go_wp2_with fail
  · exact ⟨rfl, by rw [HAL.out]; exact Ends.no 3, H1.out, H2.out⟩
  · go_end0
    exact ⟨by rw [HAL.out]; exact Ends.good 3, H1.out, H2.out⟩
end Go.Proofs.YtljmklohgpaopaaDoor
