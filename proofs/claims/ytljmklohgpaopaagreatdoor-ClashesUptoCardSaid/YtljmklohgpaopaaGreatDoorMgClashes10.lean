/- The codec's Value, Row, Columns: bytes that are laid down. The codec's Columns: bytes that are laid down. The codec's Op.Text. Lists that a call owns, of whatever elements: laws over any program. -/
import Derived.Test.YtljmklohgpaopaaGreatDoorMgClashes9
set_option linter.unusedVariables false
set_option linter.unusedSimpArgs false

namespace Go.Proofs.YtljmklohgpaopaaGreatDoor
open Go.RowKit

theorem wrap_u8 {n : Nat} (h : n < 256) : IntKind.u8.wrap (n : Int) = n := by rw [IntKind.wrap_u8]; omega
theorem wrap_sig {n : Nat} (h : n < 18446744073709551616) : IntKind.u64.wrap (sig n) = (n : Int) := by
  unfold sig
  split <;> rw [IntKind.wrap_u64] <;> omega
theorem Wr.of_put {w : World} {base n s : Nat} {v : Value} {l x : List UInt8} (hl : l.length = n) (hx : x.length = s) (ho : Ob w base v l) {e : Ending} {w' : World}
    (h : ∃ v', e = .returned v' ∧ w'.ownsRow base 5 1 v' (n + s) (bv (l ++ x)) ∧ Below base w w' ∧ (∀ k, k < w.heap.size → v.ownBlock ≠ some k → w'.heap[k]? = w.heap[k]? ∧ v'.ownBlock ≠ some k)) : Wr w base v (l ++ x) e w' := by
  obtain ⟨v', rfl, h1, h2, h3⟩ := h
  subst hl hx
  exact ⟨v', rfl, by rw [Ob, List.length_append]; exact h1, ⟨h2.os, h2.tape, h2.output, h2.size, fun k hk hn => (h3 k hk (fun e => hn e.symm)).1⟩, fun k hk hn => (h3 k hk hn).2⟩
theorem put_ob (v : Value) (l : List UInt8) (x s base : Nat) (w : World) (hown : Ob w base v l) (hbase : base ≤ w.heap.size) (hx : x < 18446744073709551616) (hs : s ≤ 8) (hs0 : 0 < s) (hn : l.length ≤ 70368744177664) :
    Calls Tryz.prog 130 #[v, .int .u64 x, .int .i64 s] w (Wr w base v (l ++ Pl.be s x)) :=
  (put_any v l.length l x s base w (.inl hown) hbase hx hs hs0 hn).mono fun _ _ h => Wr.of_put rfl (Pl.be_length s x) hown h
theorem Wr.more {w w1 : World} {base : Nat} {v v1 : Value} {l : List UInt8} {e : Ending} {w' : World} (m : Mv w w1 v v1) (h : Wr w1 base v1 l e w') : Wr w base v l e w' := by
  obtain ⟨v', h1, h2, h3⟩ := h
  exact ⟨v', h1, h2, m.trans h3⟩

set_option maxHeartbeats 1000000 in
theorem encVal_any (v : Value) (l : List UInt8) (x : Pl.Vl) (base : Nat) (w : World) (hown : Ob w base v l) (hbase : base ≤ w.heap.size) (hl : l.length ≤ 549755813888) (hx : VlB x) :
    Calls Tryz.prog 179 #[v, .agg #[.int .i64 (x.ty : Nat), .int .i64 (sig x.n), .string (tstr x.s)]] w (Wr w base v (l ++ Pl.encV x)) := by
  obtain ⟨ty, n, s⟩ := x
  obtain ⟨h1, h2, h3⟩ := hx
  dsimp only at h1 h2 h3 ⊢
  have hz := tstr_size s
  have w1 := wrap_u8 h1
  have w2 := wrap_sig h2
  obtain ⟨wb, hwb⟩ : ∃ wb, w.alloc (.cells #[.int .i64 (ty : Nat), .int .i64 (sig n), .string (tstr s)] 122) = wb := ⟨_, rfl⟩
  obtain ⟨gb, hgb⟩ : ∃ g, w.heap.size = g := ⟨_, rfl⟩
  have BB : Blk wb gb 122 [.int .i64 (ty : Nat), .int .i64 (sig n), .string (tstr s)] := by rw [← hwb, ← hgb]; exact Blk.new w 122 _
  have ob1 : Ob wb base v l := by rw [← hwb]; exact hown.alloc _
  have mb1 : Mv w wb v v := by rw [← hwb]; exact (Mv.refl w v).alloc _
  have hbb : base ≤ wb.heap.size := by rw [← hwb]; exact base_alloc hbase _
  have hne : v.ownBlock ≠ some gb := fun e => by have := (hown.lt gb e).2; omega
  obtain ⟨c0, c1, c2, _, _, _⟩ := facts3 BB
  have H1 := Lib.hid (ob1.alloc (.cells #[.int .u8 (ty : Int)] 5))
  have H2 := Lib.hid (src_one wb ty h1)
  have H3 := Lib.hid (base_alloc hbb (.cells #[.int .u8 (ty : Int)] 5))
  have H4 := Lib.hid (mb1.alloc (.cells #[.int .u8 (ty : Int)] 5))
  have H5 := Lib.hid (BB.alloc (.cells #[.int .u8 (ty : Int)] 5))
  have H6 := Lib.hid (show l.length + 1 ≤ 70368744177664 by omega)
  have H7 := Lib.hid (show (l ++ [UInt8.ofNat ty]).length ≤ 1099511627776 by rw [List.length_append, List.length_singleton]; omega)
  have H8 := Lib.hid hne
  have H9 := Lib.hid (show s.length < 256 by omega)
  clear hown hbase hl h3 BB ob1 mb1 hbb hne
  by_cases ht : ty = 1
  · have q1 : ((ty : Int) == 1) = true := by rw [ht]; rfl
    have HE : Hid (Pl.encV ⟨ty, n, s⟩ = [UInt8.ofNat ty] ++ Pl.be 8 n) := by rw [Hid]; unfold Pl.encV; rw [if_pos ht]; rfl
    clear ht
    go_enter Tryz.func179, Tryz.ntmps179
    go_wp2_with (first
      | (at_builtin
         refine wpList_ob (v := v) rfl (.tmp 5) (.tmp 9) rfl rfl H1.out (some ⟨wb.heap.size, 0, none⟩) 1 1 [UInt8.ofNat ty] rfl rfl H2.out H6.out H3.out ?_
         intro v2 w2 o2 m2
         have o2 := Lib.hid o2
         have m2 := Lib.hid m2
         obtain ⟨c0, c1, c2, _, _, _⟩ := facts3 (m2.out.only.blk H5.out (fun e => H8.out e)))
      | fail)
    refine (put_ob _ _ n 8 base _ o2.out (Nat.le_trans H3.out m2.out.1.size) h2 (by omega) (by omega) (by have := H7.out; omega)).mono ?_
    rintro e w3 ⟨v3, rfl, o3, m3⟩
    have o3 := Lib.hid o3
    have m3 := Lib.hid m3
    go_wp2_with fail
    go_ret
    exact ⟨_, rfl, by rw [HE.out, ← List.append_assoc]; exact o3.out, (H4.out.trans m2.out).trans m3.out⟩
  · have q1 : ((ty : Int) == 1) = false := beq_eq_false_iff_ne.2 (by omega)
    have HE : Hid (Pl.encV ⟨ty, n, s⟩ = [UInt8.ofNat ty] ++ Pl.short s) := by rw [Hid]; unfold Pl.encV; rw [if_neg ht]; rfl
    clear ht
    go_enter Tryz.func179, Tryz.ntmps179
    go_wp2_with (first
      | (at_builtin
         refine wpList_ob (v := v) rfl (.tmp 5) (.tmp 9) rfl rfl H1.out (some ⟨wb.heap.size, 0, none⟩) 1 1 [UInt8.ofNat ty] rfl rfl H2.out H6.out H3.out ?_
         intro v2 w2 o2 m2
         have o2 := Lib.hid o2
         have m2 := Lib.hid m2
         obtain ⟨c0, c1, c2, _, _, _⟩ := facts3 (m2.out.only.blk H5.out (fun e => H8.out e)))
      | fail)
    refine (short_any _ _ s base _ o2.out (Nat.le_trans H3.out m2.out.1.size) H7.out H9.out).mono ?_
    rintro e w3 ⟨v3, rfl, o3, m3⟩
    have o3 := Lib.hid o3
    have m3 := Lib.hid m3
    go_wp2_with fail
    go_ret
    exact ⟨_, rfl, by rw [HE.out, ← List.append_assoc]; exact o3.out, (H4.out.trans m2.out).trans m3.out⟩

theorem flat_at {α β : Type} {f : α → List β} {s : Nat} (hf : ∀ x, (f x).length = s) : ∀ (xs : List α) (k : Nat) (x : α), xs[k]? = some x → ∀ j, j < s → (xs.flatMap f)[k * s + j]? = (f x)[j]?
  | [], k, x, h, j, hj => by cases h
  | a :: r, 0, x, h, j, hj => by
    obtain rfl : a = x := by simpa using h
    rw [List.flatMap_cons, Nat.zero_mul, Nat.zero_add, List.getElem?_append_left (by rw [hf]; exact hj)]
  | a :: r, k + 1, x, h, j, hj => by
    rw [List.flatMap_cons, List.getElem?_append_right (by rw [hf, Nat.succ_mul]; omega), hf, show (k + 1) * s + j - s = k * s + j by rw [Nat.succ_mul]; omega]
    exact flat_at hf r k x (by simpa using h) j hj
theorem flat_len {α β : Type} {f : α → List β} {m : Nat} : ∀ (xs : List α), (∀ x ∈ xs, (f x).length ≤ m) → (xs.flatMap f).length ≤ xs.length * m
  | [], _ => by simp
  | a :: r, h => by
    rw [List.flatMap_cons, List.length_append, List.length_cons, Nat.succ_mul]
    have := flat_len r (fun x hx => h x (List.mem_cons_of_mem _ hx))
    have := h a (List.mem_cons_self ..)
    omega
theorem flat_succ {α β : Type} (f : α → List β) {xs : List α} {k : Nat} {x : α} (h : xs[k]? = some x) : (xs.take (k + 1)).flatMap f = (xs.take k).flatMap f ++ f x := by
  rw [List.take_add_one, h, List.flatMap_append]
  simp
theorem encV_len {v : Pl.Vl} (h : VlB v) : (Pl.encV v).length ≤ 257 := by
  unfold Pl.encV Pl.short
  have := h.2.2
  split <;> simp [Pl.be_length] <;> omega
/-- A slice's place is none of v's own. -/
def Off (w : World) (v : Value) (A : Option Addr) : Prop := ∀ p, A = some p → p.block < w.heap.size ∧ v.ownBlock ≠ some p.block
theorem Off.src {w w' : World} {v v' : Value} {A : Option Addr} {cs : List Value} (h : Off w v A) (m : Mv w w' v v') (hs : Src w A cs) : Src w' A cs := m.only.src hs (fun p hp => (h p hp).2)
theorem Off.mv {w w' : World} {v v' : Value} {A : Option Addr} (h : Off w v A) (m : Mv w w' v v') : Off w' v' A := fun p hp => ⟨Nat.lt_of_lt_of_le (h p hp).1 m.1.size, m.2 _ (h p hp).1 (h p hp).2⟩

set_option maxHeartbeats 1000000 in
theorem encRow_any (v : Value) (l : List UInt8) (A : Option Addr) (cap : Nat) (row : List Pl.Vl) (base : Nat) (w : World) (hown : Ob w base v l) (hbase : base ≤ w.heap.size) (hl : l.length ≤ 274877906944) (hs : Src w A (vcs row)) (hoff : Off w v A)
    (hx : ∀ x ∈ row, VlB x) (hr : row.length < 256) :
    Calls Tryz.prog 180 #[v, .slice A row.length cap] w (Wr w base v (l ++ Pl.encRow row)) := by
  obtain ⟨n, hn⟩ : ∃ n, row.length = n := ⟨_, rfl⟩
  have h256 : n < 256 := by omega
  have w1 := wrap_u8 h256
  have H1 := Lib.hid (hown.alloc (.cells #[.int .u8 (n : Int)] 5))
  have H2 := Lib.hid (src_one w n h256)
  have H3 := Lib.hid (base_alloc hbase (.cells #[.int .u8 (n : Int)] 5))
  have H4 := Lib.hid ((Mv.refl w v).alloc (.cells #[.int .u8 (n : Int)] 5))
  have HL := Lib.hid hl
  have H6 := Lib.hid (show l.length + 1 ≤ 70368744177664 by omega)
  have HS := Lib.hid hs
  have HX := Lib.hid hx
  have HOF := Lib.hid hoff
  have HN := Lib.hid hn
  rw [hn]
  clear hown hbase hl hs hoff hx hr hn
  go_enter Tryz.func180, Tryz.ntmps180
  go_wp2_with (first
    | (at_builtin
       refine wpList_ob (v := v) rfl (.tmp 7) (.tmp 11) rfl rfl H1.out (some ⟨w.heap.size, 0, none⟩) 1 1 [UInt8.ofNat n] rfl rfl H2.out H6.out H3.out ?_
       intro v2 w2 o2 m2
       have o2 := Lib.hid o2
       have m2 := Lib.hid m2)
    | fail)
  go_loopw [0, 15] (fun u i wr => ∃ k : Nat, k ≤ n ∧ i = .int .i64 (k : Int) ∧ Hid (Ob wr base u (l ++ UInt8.ofNat n :: (row.take k).flatMap Pl.encV)) ∧ Hid (Mv w wr v u) ∧ Hid (base ≤ wr.heap.size)) (fun _ i _ => n - (intOf i).toNat)
  case atStart => exact ⟨0, Nat.zero_le _, rfl, (by simpa [Hid] using o2.out : Hid _), H4.out.trans m2.out, Nat.le_trans H3.out m2.out.1.size⟩
  case round =>
    obtain ⟨k, hk, rfl, HO, HM, HB⟩ := hrel
    by_cases hkn : k < n
    · have q1 : (k : Int) < (n : Int) := by omega
      obtain ⟨x, hc⟩ : ∃ c, row[k]? = some c := ⟨_, List.getElem?_eq_getElem (by rw [HN.out]; exact hkn)⟩
      have hsr := HOF.out.src HM.out HS.out
      have at_ := flat_at (f := vc) (s := 3) (fun _ => rfl) row k x hc
      obtain ⟨b, off, rfl, g0⟩ := hsr.at_ _ _ (at_ 0 (by omega))
      have g1 := hsr.cell _ _ (at_ 1 (by omega))
      have g2 := hsr.cell _ _ (at_ 2 (by omega))
      rw [← Nat.add_assoc] at g1 g2
      rw [Nat.add_zero] at g0
      have hf := flat_len (f := Pl.encV) (m := 257) (row.take k) (fun y hy => encV_len (HX.out y (List.mem_of_mem_take hy)))
      have ht : (row.take k).length ≤ 256 := by rw [List.length_take]; omega
      have hlen : Hid ((l ++ UInt8.ofNat n :: (row.take k).flatMap Pl.encV).length ≤ 549755813888) := by
        rw [Hid, List.length_append, List.length_cons]
        have := HL.out
        omega
      have HV := Lib.hid (encVal_any u0 _ x base (wr.alloc (.cells #[.int .i64 (x.ty : Nat), .int .i64 (sig x.n), .string (tstr x.s)] 122)) (HO.out.alloc _) (base_alloc HB.out _) hlen.out (HX.out x (List.mem_of_getElem? hc)))
      have HC := Lib.hid hc
      clear hc hsr at_ hf ht
      go_wp2_with fail
      refine HV.out.mono ?_
      rintro e w3 ⟨v3, rfl, o3, m3⟩
      have HO3 : Hid (Ob w3 base v3 (l ++ UInt8.ofNat n :: (row.take (k + 1)).flatMap Pl.encV)) := by rw [Hid, flat_succ _ HC.out]; simpa using o3
      have HM3 := Lib.hid ((HM.out.alloc _).trans m3)
      have HB3 := Lib.hid (Nat.le_trans HB.out (Nat.le_trans (by simp) m3.1.size))
      clear o3 m3
      go_wp2_with fail
      exact ⟨⟨k + 1, by omega, by go_num, HO3.out, HM3.out, HB3.out⟩, by simp [intOf]; omega⟩
    · obtain rfl : k = n := by omega
      have HO2 : Hid (Ob wr base u0 (l ++ Pl.encRow row)) := by
        have := HO.out
        rw [List.take_of_length_le (by rw [HN.out]; exact Nat.le_refl _)] at this
        rw [Hid]
        unfold Pl.encRow
        rw [HN.out]
        exact this
      clear HO
      go_wp2_with fail
      go_ret
      exact ⟨_, rfl, HO2.out, HM.out⟩
end Go.Proofs.YtljmklohgpaopaaGreatDoor

namespace Go.Proofs.YtljmklohgpaopaaGreatDoor
open Go.RowKit

theorem encC_len {c : Pl.Cl} (h : ClB c) : (Pl.encC c).length ≤ 257 := by
  unfold Pl.encC Pl.short
  have := h.1
  simp
  omega
set_option maxHeartbeats 2000000 in
set_option maxRecDepth 100000 in
theorem encCols_any (v : Value) (l : List UInt8) (A : Option Addr) (cap : Nat) (cols : List Pl.Cl) (base : Nat) (w : World) (hown : Ob w base v l) (hbase : base ≤ w.heap.size) (hl : l.length ≤ 274877906944) (hs : Src w A (clcs cols)) (hoff : Off w v A)
    (hx : ∀ x ∈ cols, ClB x) (hr : cols.length < 256) :
    Calls Tryz.prog 178 #[v, .slice A cols.length cap] w (Wr w base v (l ++ Pl.encCols cols)) := by
  obtain ⟨n, hn⟩ : ∃ n, cols.length = n := ⟨_, rfl⟩
  have h256 : n < 256 := by omega
  have w1 := wrap_u8 h256
  have H1 := Lib.hid (hown.alloc (.cells #[.int .u8 (n : Int)] 5))
  have H2 := Lib.hid (src_one w n h256)
  have H3 := Lib.hid (base_alloc hbase (.cells #[.int .u8 (n : Int)] 5))
  have H4 := Lib.hid ((Mv.refl w v).alloc (.cells #[.int .u8 (n : Int)] 5))
  have HL := Lib.hid hl
  have H6 := Lib.hid (show l.length + 1 ≤ 70368744177664 by omega)
  have HS := Lib.hid hs
  have HX := Lib.hid hx
  have HOF := Lib.hid hoff
  have HN := Lib.hid hn
  rw [hn]
  clear hown hbase hl hs hoff hx hr hn
  go_enter Tryz.func178, Tryz.ntmps178
  go_wp2_with (first
    | (at_builtin
       refine wpList_ob (v := v) rfl (.tmp 7) (.tmp 11) rfl rfl H1.out (some ⟨w.heap.size, 0, none⟩) 1 1 [UInt8.ofNat n] rfl rfl H2.out H6.out H3.out ?_
       intro v2 w2 o2 m2
       have o2 := Lib.hid o2
       have m2 := Lib.hid m2)
    | fail)
  go_loopw [0, 15] (fun u i wr => ∃ k : Nat, k ≤ n ∧ i = .int .i64 (k : Int) ∧ Hid (Ob wr base u (l ++ UInt8.ofNat n :: (cols.take k).flatMap Pl.encC)) ∧ Hid (Mv w wr v u) ∧ Hid (base ≤ wr.heap.size)) (fun _ i _ => n - (intOf i).toNat)
  case atStart => exact ⟨0, Nat.zero_le _, rfl, (by simpa [Hid] using o2.out : Hid _), H4.out.trans m2.out, Nat.le_trans H3.out m2.out.1.size⟩
  case round =>
    obtain ⟨k, hk, rfl, HO, HM, HB⟩ := hrel
    by_cases hkn : k < n
    · have q1 : (k : Int) < (n : Int) := by omega
      obtain ⟨x, hc⟩ : ∃ c, cols[k]? = some c := ⟨_, List.getElem?_eq_getElem (by rw [HN.out]; exact hkn)⟩
      have hsr := HOF.out.src HM.out HS.out
      have at_ := flat_at (f := clc) (s := 2) (fun _ => rfl) cols k x hc
      obtain ⟨b, off, rfl, g0⟩ := hsr.at_ _ _ (at_ 0 (by omega))
      have g1 := hsr.cell _ _ (at_ 1 (by omega))
      rw [← Nat.add_assoc] at g1
      rw [Nat.add_zero] at g0
      have hf := flat_len (f := Pl.encC) (m := 257) (cols.take k) (fun y hy => encC_len (HX.out y (List.mem_of_mem_take hy)))
      have ht : (cols.take k).length ≤ 256 := by rw [List.length_take]; omega
      have hlen : Hid ((l ++ UInt8.ofNat n :: (cols.take k).flatMap Pl.encC).length ≤ 549755813888) := by
        rw [Hid, List.length_append, List.length_cons]
        have := HL.out
        omega
      have hxb := HX.out x (List.mem_of_getElem? hc)
      have HC := Lib.hid hc
      obtain ⟨nm, ty⟩ := x
      obtain ⟨hx1, hx2⟩ := hxb
      dsimp only at g0 g1 hx1 hx2
      obtain ⟨lk, hlk⟩ : ∃ y, l ++ UInt8.ofNat n :: (cols.take k).flatMap Pl.encC = y := ⟨_, rfl⟩
      rw [hlk] at HO hlen
      have HLK := Lib.hid hlk
      obtain ⟨g6, hg6⟩ : ∃ g, wr.heap.size = g := ⟨_, rfl⟩
      obtain ⟨wb, hwb⟩ : ∃ wb, wr.alloc (.cells #[.string (tstr nm), .int .i64 (ty : Nat)] 224) = wb := ⟨_, rfl⟩
      have BB : Blk wb g6 224 [.string (tstr nm), .int .i64 (ty : Nat)] := by rw [← hwb, ← hg6]; exact Blk.new wr 224 _
      have obb : Ob wb base u0 lk := by rw [← hwb]; exact HO.out.alloc _
      have mbb : Mv w wb v u0 := by rw [← hwb]; exact HM.out.alloc _
      have hbb : base ≤ wb.heap.size := by rw [← hwb]; exact base_alloc HB.out _
      have hne : u0.ownBlock ≠ some g6 := fun e => by have := (HO.out.lt g6 e).2; omega
      obtain ⟨c0, c1, _, _⟩ := facts2 BB
      have wty := wrap_u8 hx2
      have HSH : ∀ W, Ob W base u0 lk → base ≤ W.heap.size → Calls Tryz.prog 177 #[u0, .string (tstr nm)] W (Wr W base u0 (lk ++ Pl.short nm)) := fun W h1 h2 => short_any u0 lk nm base W h1 h2 (by have := hlen.out; omega) (by omega)
      have HSH := Lib.hid HSH
      have BB := Lib.hid BB
      have OBB := Lib.hid obb
      have MBB := Lib.hid mbb
      have HBB := Lib.hid hbb
      have HNE := Lib.hid hne
      have HL2 : Hid ((lk ++ Pl.short nm).length + 1 ≤ 70368744177664) := by rw [Hid, List.length_append]; unfold Pl.short; simp only [List.length_cons]; have := hlen.out; omega
      have HSC := Lib.hid (And.intro c0 c1)
      have HTY := Lib.hid hx2
      clear hc hsr at_ hf ht obb mbb hbb hne hlk
      go_wp2_with fail
      refine wp_region_L 8 (fun _ => True) (fun W => W.cell? ⟨g6, 0, none⟩ = some (.string (tstr nm)) ∧ W.cell? ⟨g6, 1, none⟩ = some (.int .i64 (ty : Nat))) (by kernel_rfl) trivial HSC.out (fun hTill => ?_)
      refine wpL_take' (i := 0) (oi := _) (v := ?_) rfl (by kernel_rfl) (by kernel_rfl) (by kernel_rfl) (by kernel_rfl) (fun _ _ _ h => h) (.inl ⟨by rfl, ?_⟩) (by assumption) ?_
      rotate_left
      · intro W hSw
        (try dsimp only at hSw)
        go_simp
        (try rfl)
      (try simp only [Act.put, List.getElem_toArray, List.getElem_cons_succ, List.getElem_cons_zero, List.setIfInBounds_toArray, List.set_cons_zero, List.set_cons_succ])
      refine wpL_take' (i := 1) (oi := _) (v := ?_) rfl (by kernel_rfl) (by kernel_rfl) (by kernel_rfl) (by kernel_rfl) (fun _ _ _ h => h) (.inl ⟨by rfl, ?_⟩) (by assumption) ?_
      rotate_left
      · intro W hSw
        (try dsimp only at hSw)
        go_simp
        (try rfl)
      (try simp only [Act.put, List.getElem_toArray, List.getElem_cons_succ, List.getElem_cons_zero, List.setIfInBounds_toArray, List.set_cons_zero, List.set_cons_succ])
      refine wpL_take' (i := 2) (oi := _) (v := ?_) rfl (by kernel_rfl) (by kernel_rfl) (by kernel_rfl) (by kernel_rfl) (fun _ _ _ h => h) (.inl ⟨by rfl, ?_⟩) (by assumption) ?_
      rotate_left
      · intro W hSw
        (try dsimp only at hSw)
        go_simp
        (try rfl)
      (try simp only [Act.put, List.getElem_toArray, List.getElem_cons_succ, List.getElem_cons_zero, List.setIfInBounds_toArray, List.set_cons_zero, List.set_cons_succ])
      refine wpL_take' (i := 4) (oi := _) (v := ?_) rfl (by kernel_rfl) (by kernel_rfl) (by kernel_rfl) (by kernel_rfl) (fun _ _ _ h => h) (.inl ⟨by rfl, ?_⟩) (by assumption) ?_
      rotate_left
      · intro W hSw
        (try dsimp only at hSw)
        go_simp
        (try rfl)
      (try simp only [Act.put, List.getElem_toArray, List.getElem_cons_succ, List.getElem_cons_zero, List.setIfInBounds_toArray, List.set_cons_zero, List.set_cons_succ])
      refine wpL_take' (i := 5) (oi := _) (v := ?_) rfl (by kernel_rfl) (by kernel_rfl) (by kernel_rfl) (by kernel_rfl) (fun _ _ _ h => h) (.inl ⟨by rfl, ?_⟩) (by assumption) ?_
      rotate_left
      · intro W hSw
        (try dsimp only at hSw)
        go_simp
        (try rfl)
      (try simp only [Act.put, List.getElem_toArray, List.getElem_cons_succ, List.getElem_cons_zero, List.setIfInBounds_toArray, List.set_cons_zero, List.set_cons_succ])
      refine wpL_take' (i := 6) (oi := _) (v := ?_) rfl (by kernel_rfl) (by kernel_rfl) (by kernel_rfl) (by kernel_rfl) (fun _ _ _ h => h) (.inl ⟨by rfl, ?_⟩) (by assumption) ?_
      rotate_left
      · intro W hSw
        (try dsimp only at hSw)
        go_simp
        (try rfl)
      (try simp only [Act.put, List.getElem_toArray, List.getElem_cons_succ, List.getElem_cons_zero, List.setIfInBounds_toArray, List.set_cons_zero, List.set_cons_succ])
      refine wpL_ready (rs := [3, 7]) (by kernel_rfl) (by simp) ?_
      refine AllL.cons (o := _) rfl (fun K hK => ?_) (AllL.cons (o := _) rfl (fun K hK => ?_) AllL.nil)
      · go_simp
        refine (HSH.out wb.drew OBB.out HBB.out).mono ?_
        rintro e w3 ⟨v3, rfl, o3, m3⟩
        have NE3 : Hid (v3.ownBlock ≠ some g6) := m3.2 g6 BB.out.lt HNE.out
        have BB3 := Lib.hid (m3.only.blk BB.out.drew HNE.out)
        have O3 := Lib.hid (Ob.alloc o3 (.cells #[.int .u8 (ty : Nat)] 5))
        have M3 := Lib.hid ((MBB.out.drew.trans m3).alloc (.cells #[.int .u8 (ty : Nat)] 5))
        have hb3 := Lib.hid (base_alloc (Nat.le_trans HBB.out m3.1.size) (.cells #[.int .u8 (ty : Nat)] 5))
        have S3 := Lib.hid (src_one w3 ty HTY.out)
        have B3 := Lib.hid (BB3.out.alloc (.cells #[.int .u8 (ty : Nat)] 5))
        obtain ⟨W3, hW3⟩ : ∃ W, w3.alloc (.cells #[.int .u8 (ty : Nat)] 5) = W := ⟨_, rfl⟩
        rw [hW3] at O3 M3 hb3 S3 B3
        obtain ⟨gx, hgx⟩ : ∃ g, w3.heap.size = g := ⟨_, rfl⟩
        rw [hgx] at S3
        go_wp2_with fail
        refine hK.out _ _ ⟨fun _ => trivial, BB3.out.cell 0, BB3.out.cell 1⟩ (fun hTill => ?_)
        clear hK K
        (try simp only [Act.put, List.getElem_toArray, List.getElem_cons_succ, List.getElem_cons_zero, List.setIfInBounds_toArray, List.set_cons_zero, List.set_cons_succ])
        clear o3 m3
        refine wpL_ready (rs := [7]) (by kernel_rfl) (by simp) ?_
        refine AllL.cons (o := _) rfl (fun K hK => ?_) AllL.nil
        go_simp
        refine hK.out _ _ ⟨fun _ => trivial, B3.out.cell 0, B3.out.cell 1⟩ (fun hTill => ?_)
        clear hK K
        (try simp only [Act.put, List.getElem_toArray, List.getElem_cons_succ, List.getElem_cons_zero, List.setIfInBounds_toArray, List.set_cons_zero, List.set_cons_succ])
        refine wpL_ready (rs := [8]) (by kernel_rfl) (by simp) ?_
        refine AllL.cons (o := _) rfl (fun K hK => ?_) AllL.nil
        refine step_ob (v := v3) rfl (.tmp 22) (.tmp 26) rfl rfl O3.out (some ⟨gx, 0, none⟩) 1 1 [UInt8.ofNat ty] rfl rfl S3.out HL2.out hb3.out ?_
        intro v4 w4 o4 m4
        have B4 := Lib.hid (m4.only.blk B3.out (fun e => NE3.out e))
        have O4 : Hid (Ob w4 base v4 (l ++ UInt8.ofNat n :: (cols.take (k + 1)).flatMap Pl.encC)) := by rw [Hid, flat_succ _ HC.out, ← List.cons_append, ← List.append_assoc, HLK.out]; unfold Pl.encC; rw [← List.append_assoc]; exact o4
        have M4 := Lib.hid (M3.out.trans m4)
        have HB4 := Lib.hid (Nat.le_trans hb3.out m4.1.size)
        clear o4 m4
        refine hK.out _ _ ⟨fun _ => trivial, B4.out.cell 0, B4.out.cell 1⟩ (fun hTill => ?_)
        clear hK K
        (try simp only [Act.put, List.getElem_toArray, List.getElem_cons_succ, List.getElem_cons_zero, List.setIfInBounds_toArray, List.set_cons_zero, List.set_cons_succ])
        refine wpL_take' (i := 9) (oi := _) (v := ?_) rfl (by kernel_rfl) (by kernel_rfl) (by kernel_rfl) (by kernel_rfl) (fun _ _ _ h => h) (.inl ⟨by rfl, ?_⟩) (by assumption) ?_
        rotate_left
        · intro W hSw
          (try dsimp only at hSw)
          go_simp
          (try rfl)
        (try simp only [Act.put, List.getElem_toArray, List.getElem_cons_succ, List.getElem_cons_zero, List.setIfInBounds_toArray, List.set_cons_zero, List.set_cons_succ])
        refine wpL_done (by kernel_rfl) ?_ _
        clear hTill
        go_wp2_with fail
        exact ⟨⟨k + 1, by omega, by go_num, O4.out, M4.out, HB4.out⟩, by simp [intOf]; omega⟩
      · have B1 := Lib.hid (BB.out.drew.alloc (.cells #[.int .u8 (ty : Nat)] 5))
        have O1 : Hid (Ob (wb.drew.alloc (.cells #[.int .u8 (ty : Nat)] 5)) base u0 lk) := Ob.alloc (w := wb.drew) OBB.out _
        have b1 := Lib.hid (base_alloc (w := wb.drew) HBB.out (.cells #[.int .u8 (ty : Nat)] 5))
        have S1 := Lib.hid (src_one wb.drew ty HTY.out)
        have M1 : Hid (Mv w (wb.drew.alloc (.cells #[.int .u8 (ty : Nat)] 5)) v u0) := Mv.alloc MBB.out.drew _
        obtain ⟨W1, hW1⟩ : ∃ W, wb.drew.alloc (.cells #[.int .u8 (ty : Nat)] 5) = W := ⟨_, rfl⟩
        rw [hW1] at B1 O1 b1 S1 M1
        obtain ⟨gx, hgx⟩ : ∃ g, wb.heap.size = g := ⟨_, rfl⟩
        have S1 : Hid (Src W1 (some ⟨gx, 0, none⟩) (bv [UInt8.ofNat ty])) := by rw [← hgx]; exact S1.out
        have hgo : u0.ownBlock ≠ some gx := fun e => by have := (OBB.out.lt gx e).2; omega
        have HGO := Lib.hid hgo
        go_simp
        refine hK.out _ _ ⟨fun _ => trivial, B1.out.cell 0, B1.out.cell 1⟩ (fun hTill => ?_)
        clear hK K
        (try simp only [Act.put, List.getElem_toArray, List.getElem_cons_succ, List.getElem_cons_zero, List.setIfInBounds_toArray, List.set_cons_zero, List.set_cons_succ])
        refine wpL_ready (rs := [3]) (by kernel_rfl) (by simp) ?_
        refine AllL.cons (o := _) rfl (fun K hK => ?_) AllL.nil
        go_simp
        refine (HSH.out _ O1.out b1.out).mono ?_
        rintro e w3 ⟨v3, rfl, o3, m3⟩
        have O3 := Lib.hid o3
        have M3 := Lib.hid (M1.out.trans m3)
        have hb3 := Lib.hid (Nat.le_trans b1.out m3.1.size)
        have S3 := Lib.hid (m3.only.src S1.out (fun p hp => by injection hp with hp; subst hp; exact HGO.out))
        have B3 := Lib.hid (m3.only.blk B1.out (fun e => HNE.out e))
        have NE3 : Hid (v3.ownBlock ≠ some g6) := m3.2 g6 B1.out.lt HNE.out
        clear o3 m3
        go_wp2_with fail
        refine hK.out _ _ ⟨fun _ => trivial, B3.out.cell 0, B3.out.cell 1⟩ (fun hTill => ?_)
        clear hK K
        (try simp only [Act.put, List.getElem_toArray, List.getElem_cons_succ, List.getElem_cons_zero, List.setIfInBounds_toArray, List.set_cons_zero, List.set_cons_succ])
        refine wpL_ready (rs := [8]) (by kernel_rfl) (by simp) ?_
        refine AllL.cons (o := _) rfl (fun K hK => ?_) AllL.nil
        refine step_ob (v := v3) rfl (.tmp 22) (.tmp 26) rfl rfl O3.out (some ⟨gx, 0, none⟩) 1 1 [UInt8.ofNat ty] rfl rfl S3.out HL2.out hb3.out ?_
        intro v4 w4 o4 m4
        have B4 := Lib.hid (m4.only.blk B3.out (fun e => NE3.out e))
        have O4 : Hid (Ob w4 base v4 (l ++ UInt8.ofNat n :: (cols.take (k + 1)).flatMap Pl.encC)) := by rw [Hid, flat_succ _ HC.out, ← List.cons_append, ← List.append_assoc, HLK.out]; unfold Pl.encC; rw [← List.append_assoc]; exact o4
        have M4 := Lib.hid (M3.out.trans m4)
        have HB4 := Lib.hid (Nat.le_trans hb3.out m4.1.size)
        clear o4 m4
        refine hK.out _ _ ⟨fun _ => trivial, B4.out.cell 0, B4.out.cell 1⟩ (fun hTill => ?_)
        clear hK K
        (try simp only [Act.put, List.getElem_toArray, List.getElem_cons_succ, List.getElem_cons_zero, List.setIfInBounds_toArray, List.set_cons_zero, List.set_cons_succ])
        refine wpL_take' (i := 9) (oi := _) (v := ?_) rfl (by kernel_rfl) (by kernel_rfl) (by kernel_rfl) (by kernel_rfl) (fun _ _ _ h => h) (.inl ⟨by rfl, ?_⟩) (by assumption) ?_
        rotate_left
        · intro W hSw
          (try dsimp only at hSw)
          go_simp
          (try rfl)
        (try simp only [Act.put, List.getElem_toArray, List.getElem_cons_succ, List.getElem_cons_zero, List.setIfInBounds_toArray, List.set_cons_zero, List.set_cons_succ])
        refine wpL_done (by kernel_rfl) ?_ _
        clear hTill
        go_wp2_with fail
        exact ⟨⟨k + 1, by omega, by go_num, O4.out, M4.out, HB4.out⟩, by simp [intOf]; omega⟩
    · obtain rfl : k = n := by omega
      have HO2 : Hid (Ob wr base u0 (l ++ Pl.encCols cols)) := by
        have := HO.out
        rw [List.take_of_length_le (by rw [HN.out]; exact Nat.le_refl _)] at this
        rw [Hid]
        unfold Pl.encCols
        rw [HN.out]
        exact this
      clear HO
      go_wp2_with fail
      go_ret
      exact ⟨_, rfl, HO2.out, HM.out⟩
end Go.Proofs.YtljmklohgpaopaaGreatDoor

namespace Go.Proofs.YtljmklohgpaopaaGreatDoor
open Go.RowKit

/-- A call that makes bytes. -/
def NB (w : World) (l : List UInt8) (e : Ending) (w' : World) : Prop :=
  ∃ A n cap, e = .returned (.slice A n cap) ∧ l.length = n ∧ n ≤ cap ∧ BytesAt w' A l ∧ (∀ p, A = some p → w.heap.size ≤ p.block ∧ p.block < w'.heap.size) ∧ Below w.heap.size w w'
theorem Wr.nb {w0 w : World} {base : Nat} {v : Value} {l0 l : List UInt8} {e : Ending} {w' : World} (h : Wr w base v l e w') (ho : Ob w base v l0) (hb : Below w0.heap.size w0 w) (hl : w0.heap.size ≤ base) (hs : base ≤ w.heap.size) : NB w0 l e w' := by
  obtain ⟨v', rfl, h1, h2⟩ := h
  obtain ⟨A, cap, rfl, h3, h4, h5⟩ := h1.bytes
  refine ⟨A, _, cap, rfl, rfl, h3, h4, fun p hp => ⟨Nat.le_trans hl (h5 p hp).1, (h5 p hp).2⟩, hb.trans ((h2.belowB ho hs).mono hl)⟩
theorem Ob.lit (w : World) (c base : Nat) (hc : c < 256) (hb : base ≤ w.heap.size) : Ob (w.alloc (.cells #[.int .u8 (c : Int)] 5)) base (.slice (some ⟨w.heap.size, 0, none⟩) 1 1) [UInt8.ofNat c] := by
  have : bv [UInt8.ofNat c] = [.int .u8 (c : Int)] := by simp [bv]; omega
  rw [Ob, this]
  exact World.ownsRow_lit w #[.int .u8 (c : Int)] 1 hb (by simp only [maxLen]; omega) rfl
theorem OpOk.b {o : Pl.Opn} (h : Pl.OpOk o) : o.kind < 5 ∧ o.table.length ≤ 8 ∧ o.cols.length ≤ 4 ∧ o.row.length ≤ 4 ∧ (∀ x ∈ o.cols, ClB x) ∧ (∀ x ∈ o.row, VlB x) ∧ (o.kind = 4 → ∃ v, o.row = [v]) := by
  obtain ⟨h0, h⟩ := h
  have hv : ∀ v, Pl.VlOk v → VlB v := fun v hv => by
    have e : (256 : Nat) ^ 8 = 18446744073709551616 := by decide
    rcases hv with ⟨a, b, c⟩ | ⟨a, b, c⟩
    · exact ⟨by omega, by omega, by simp [b]⟩
    · exact ⟨by omega, by omega, by omega⟩
  have hc : ∀ c, Pl.ClOk c → ClB c := fun c hc => ⟨by have := hc.1.1.2; omega, by have := hc.2; omega⟩
  have ht : o.table.length ≤ 8 := h0.1.2
  rcases h with ⟨a, b, c⟩ | ⟨a, b, c⟩ | ⟨a, b, v, c, d⟩
  · exact ⟨by omega, ht, b.1.2, by simp [c], fun x hx => hc x (b.2.1 x hx), by simp [c], fun e => by omega⟩
  · exact ⟨by omega, ht, by simp [b], c.1.2, by simp [b], fun x hx => hv x (c.2 x hx), fun e => by omega⟩
  · exact ⟨by omega, ht, by simp [b], by simp [c], by simp [b], by simpa [c] using hv v d, fun _ => ⟨v, c⟩⟩
set_option maxHeartbeats 1000000 in
set_option maxRecDepth 100000 in
theorem opText_any (P : Nat → Prop) (c : List Value) (o : Pl.Opn) (w : World) (hR : OpR w P c o) (hP : ∀ b, P b → b < w.heap.size) (hok : Pl.OpOk o) :
    Calls Tryz.prog 153 #[.agg c.toArray] w (NB w (Pl.encOp o)) := by
  obtain ⟨hk, ht, hcl, hrl, hcb, hrb, h4⟩ := OpOk.b hok
  obtain ⟨Ac, cc, Ar, cr, rfl, hcc, hcr, hsc, hsr, hpc, hpr⟩ := hR
  obtain ⟨kind, table, cols, row⟩ := o
  dsimp only at hk ht hcl hrl hcb hrb h4 hcc hcr hsc hsr ⊢
  obtain ⟨nr, hnr⟩ : ∃ n, row.length = n := ⟨_, rfl⟩
  have HNR := Lib.hid hnr
  rw [hnr] at hrl hcr ⊢
  have hz := tstr_size table
  have wk := wrap_u8 (show kind < 256 by omega)
  obtain ⟨wb, hwb⟩ : ∃ wb, w.alloc (.cells #[.int .i64 (kind : Nat), .string (tstr table), .slice Ac cols.length cc, .slice Ar nr cr] 259) = wb := ⟨_, rfl⟩
  obtain ⟨gb, hgb⟩ : ∃ g, w.heap.size = g := ⟨_, rfl⟩
  have BB : Blk wb gb 259 [.int .i64 (kind : Nat), .string (tstr table), .slice Ac cols.length cc, .slice Ar nr cr] := by rw [← hwb, ← hgb]; exact Blk.new w 259 _
  have hbb : Below w.heap.size w wb := by rw [← hwb]; exact (Below.refl _ _).alloc (Nat.le_refl _) _
  have hsb : wb.heap.size = w.heap.size + 1 := by rw [← hwb]; simp
  obtain ⟨c0, c1, c2, c3⟩ := facts4 BB
  have O1 := Lib.hid (Ob.lit wb kind wb.heap.size (by omega) (Nat.le_refl _))
  obtain ⟨W1, hW1⟩ : ∃ W, wb.alloc (.cells #[.int .u8 (kind : Int)] 5) = W := ⟨_, rfl⟩
  have B1 : Below wb.heap.size wb W1 := by rw [← hW1]; exact (Below.refl _ _).alloc (Nat.le_refl _) _
  rw [hW1] at O1
  have HSH := Lib.hid (short_any _ _ table wb.heap.size W1 O1.out (by rw [← hW1]; simp) (by simp) (by omega))
  have HBB := Lib.hid BB
  have HB1 := Lib.hid B1
  have HBW := Lib.hid hbb
  have HSB := Lib.hid hsb
  have HHB := Lib.hid hgb
  have HSC := Lib.hid (hsc.below hbb)
  have HSR := Lib.hid (hsr.below hbb)
  have hc1 := B1.cell (p := ⟨gb, 1, none⟩) (by have := BB.lt; exact this)
  rw [c1] at hc1
  have HPC := Lib.hid hpc
  have HPR := Lib.hid hpr
  have HP := Lib.hid hP
  have HCB := Lib.hid hcb
  have HRB := Lib.hid hrb
  clear BB B1 hbb hsb hsc hsr hpc hpr hP hcb hrb hok hnr
  have HEN : Hid (Pl.encOp ⟨kind, table, cols, row⟩ = ([UInt8.ofNat kind] ++ Pl.short table) ++ (if kind = 1 then Pl.encCols cols else if kind = 4 then row.flatMap Pl.encV else Pl.encRow row)) := rfl
  have HL : Hid (([UInt8.ofNat kind] ++ Pl.short table).length ≤ 1000) := by rw [Hid]; unfold Pl.short; simp; omega
  by_cases k1 : kind = 1
  · have q1 : ((kind : Int) == 1) = true := by rw [k1]; rfl
    rw [if_pos k1] at HEN
    have H4 := Lib.hid h4
    clear k1 h4
    go_enter Tryz.func153, Tryz.ntmps153
    go_wp2_with fail
    refine HSH.out.mono ?_
    rintro e w2 ⟨v2, rfl, o2, m2⟩
    have b2 := HB1.out.trans (m2.belowB O1.out (by rw [← hW1]; simp))
    obtain ⟨d0, d1, d2, d3⟩ := facts4 (HBB.out.below b2 HBB.out.lt)
    have B2 := Lib.hid b2
    have O2 := Lib.hid o2
    clear m2 o2 b2
    go_wp2_with fail
    refine (encCols_any v2 _ Ac cc cols wb.heap.size w2 O2.out B2.out.size (by have := HL.out; omega) (HSC.out.below B2.out) (fun p hp => ?_) HCB.out (by omega)).mono ?_
    · have h1 := HP.out _ (HPC.out p hp)
      have h2 := HSB.out
      have h3 := B2.out.size
      exact ⟨by omega, fun e => by have := (O2.out.lt _ e).1; omega⟩
    · intro e w3 hw
      have hn := hw.nb (w0 := w) O2.out (HBW.out.trans (B2.out.mono (by have := HSB.out; omega))) (by have := HSB.out; omega) B2.out.size
      obtain ⟨A', n', cap', rfl, hn⟩ := hn
      have HNB := Lib.hid hn
      go_wp2_with fail
      go_ret
      rw [HEN.out]
      exact ⟨_, _, _, rfl, HNB.out⟩
  · by_cases k4 : kind = 4
    · have q1 : ((kind : Int) == 1) = false := beq_eq_false_iff_ne.2 (by omega)
      have q4 : ((kind : Int) == 4) = true := by rw [k4]; rfl
      obtain ⟨x, rfl⟩ := h4 k4
      have hn1 : (0 : Int) < (nr : Int) := by have := HNR.out; simp at this; omega
      rw [if_neg k1, if_pos k4, List.flatMap_cons, List.flatMap_nil, List.append_nil] at HEN
      clear k1 k4 h4
      have at_ := flat_at (f := vc) (s := 3) (fun _ => rfl) [x] 0 x rfl
      obtain ⟨b, off, rfl, g0⟩ := HSR.out.at_ _ _ (at_ 0 (by omega))
      simp only [Nat.zero_mul, Nat.add_zero] at g0
      go_enter Tryz.func153, Tryz.ntmps153
      go_wp2_with fail
      refine HSH.out.mono ?_
      rintro e w2 ⟨v2, rfl, o2, m2⟩
      have b2 := HB1.out.trans (m2.belowB O1.out (by rw [← hW1]; simp))
      obtain ⟨d0, d1, d2, d3⟩ := facts4 (HBB.out.below b2 HBB.out.lt)
      have hs2 := HSR.out.below b2
      have e0 := hs2.cell _ _ (at_ 0 (by omega))
      have e1 := hs2.cell _ _ (at_ 1 (by omega))
      have e2 := hs2.cell _ _ (at_ 2 (by omega))
      simp only [Nat.zero_mul, Nat.zero_add, Nat.add_zero] at e0 e1 e2
      have B2 := Lib.hid b2
      have O2 := Lib.hid o2
      clear m2 o2 b2 hs2
      go_wp2_with fail
      refine (encVal_any v2 _ x wb.heap.size w2 O2.out B2.out.size (by have := HL.out; omega) (HRB.out x (by simp))).mono ?_
      intro e w3 hw
      have hn := hw.nb (w0 := w) O2.out (HBW.out.trans (B2.out.mono (by have := HSB.out; omega))) (by have := HSB.out; omega) B2.out.size
      obtain ⟨A', n', cap', rfl, hn⟩ := hn
      have HNB := Lib.hid hn
      go_wp2_with fail
      go_ret
      rw [HEN.out]
      exact ⟨_, _, _, rfl, HNB.out⟩
    · have q1 : ((kind : Int) == 1) = false := beq_eq_false_iff_ne.2 (by omega)
      have q4 : ((kind : Int) == 4) = false := beq_eq_false_iff_ne.2 (by omega)
      rw [if_neg k1, if_neg k4] at HEN
      clear k1 k4 h4
      go_enter Tryz.func153, Tryz.ntmps153
      go_wp2_with fail
      refine HSH.out.mono ?_
      rintro e w2 ⟨v2, rfl, o2, m2⟩
      have b2 := HB1.out.trans (m2.belowB O1.out (by rw [← hW1]; simp))
      obtain ⟨d0, d1, d2, d3⟩ := facts4 (HBB.out.below b2 HBB.out.lt)
      have B2 := Lib.hid b2
      have O2 := Lib.hid o2
      clear m2 o2 b2
      go_wp2_with fail
      have hrow := fun h => encRow_any v2 _ Ar cr row wb.heap.size w2 O2.out B2.out.size (by have := HL.out; omega) (HSR.out.below B2.out) h HRB.out (by have := HNR.out; omega)
      rw [HNR.out] at hrow
      refine (hrow (fun p hp => ?_)).mono ?_
      · have h1 := HP.out _ (HPR.out p hp)
        have h2 := HSB.out
        have h3 := B2.out.size
        exact ⟨by omega, fun e => by have := (O2.out.lt _ e).1; omega⟩
      · intro e w3 hw
        have hn := hw.nb (w0 := w) O2.out (HBW.out.trans (B2.out.mono (by have := HSB.out; omega))) (by have := HSB.out; omega) B2.out.size
        obtain ⟨A', n', cap', rfl, hn⟩ := hn
        have HNB := Lib.hid hn
        go_wp2_with fail
        go_ret
        rw [HEN.out]
        exact ⟨_, _, _, rfl, HNB.out⟩
end Go.Proofs.YtljmklohgpaopaaGreatDoor

namespace Go.Proofs.YtljmklohgpaopaaGreatDoor
open Go.RowKit

/-- What is said of an element lasts where nothing of its blocks changes. -/
def Fr {α : Type} (R : World → (Nat → Prop) → List Value → α → Prop) : Prop :=
  ∀ (F P P' : Nat → Prop) (w w' : World) (c : List Value) (x : α), R w P c x → Only F w w' → (∀ b, P b → ¬ F b) → (∀ b, P b → P' b) → R w' P' c x
/-- A list of the call's own: its elements lead to blocks of the call's own, none of them that of the list. -/
def OL {α : Type} (e : TypeId) (s : Nat) (R : World → (Nat → Prop) → List Value → α → Prop) (w : World) (base : Nat) (v : Value) (xs : List α) : Prop :=
  ∃ cs, w.ownsRow base e s v xs.length cs ∧ RowsR s (R w (fun b => base ≤ b ∧ b < w.heap.size ∧ v.ownBlock ≠ some b)) cs xs
section
variable {α : Type} {e : TypeId} {s : Nat} {R : World → (Nat → Prop) → List Value → α → Prop} {w w' : World} {base : Nat} {v : Value} {xs : List α}
theorem OL.nil (w : World) (base : Nat) : OL e s R w base (.slice none 0 0) [] := ⟨[], World.ownsRow_nil _ _ _ _, RowsR.nil _ _⟩
theorem OL.only {F : Nat → Prop} (fr : Fr R) (h : OL e s R w base v xs) (ho : Only F w w') (hF : ∀ x, base ≤ x → x < w.heap.size → ¬ F x) : OL e s R w' base v xs := by
  obtain ⟨cs, h1, h2⟩ := h
  exact ⟨cs, ho.own h1 (fun g hg => hF g (h1.lt g hg).1 (h1.lt g hg).2), h2.mono (fun _ _ _ h => fr F _ _ w w' _ _ h ho (fun b hb => hF b hb.1 hb.2.1) (fun b hb => ⟨hb.1, Nat.lt_of_lt_of_le hb.2.1 ho.size, hb.2.2⟩))⟩
theorem OL.below (fr : Fr R) (h : OL e s R w base v xs) (hb : Below w.heap.size w w') : OL e s R w' base v xs := h.only fr (Only.of_below hb (fun _ => False)) (fun _ _ _ h => h)
theorem OL.low {base' : Nat} (fr : Fr R) (h : OL e s R w base v xs) (hb : base' ≤ base) : OL e s R w base' v xs := by
  obtain ⟨cs, h1, h2⟩ := h
  exact ⟨cs, own_base h1 hb, h2.mono (fun _ _ _ h => fr (fun _ => False) _ _ w w _ _ h (Only.refl _ _) (fun _ _ h => h) (fun b hb' => ⟨Nat.le_trans hb hb'.1, hb'.2⟩))⟩
theorem OL.lt (h : OL e s R w base v xs) : ∀ g, v.ownBlock = some g → base ≤ g ∧ g < w.heap.size := by
  obtain ⟨cs, h1, _⟩ := h
  exact h1.lt
/-- As it is read. -/
theorem OL.src (fr : Fr R) (h : OL e s R w base v xs) : ∃ A cap cs, v = .slice A xs.length cap ∧ xs.length ≤ cap ∧ Src w A cs ∧ RowsR s (R w (fun b => base ≤ b ∧ b < w.heap.size)) cs xs ∧ (∀ p, A = some p → base ≤ p.block ∧ p.block < w.heap.size) := by
  obtain ⟨cs, h1, h2⟩ := h
  obtain ⟨A, cap, rfl, h3, h4, h5⟩ := own_src h1
  exact ⟨A, cap, cs, rfl, h3, h4, h2.mono (fun _ _ _ h => fr (fun _ => False) _ _ w w _ _ h (Only.refl _ _) (fun _ _ h => h) (fun b hb => ⟨hb.1, hb.2.1⟩)), fun p hp => h1.lt _ (h5 p hp)⟩
theorem wp_ol {P : Program} {o : Oper} {a : Act} {K : Act → World → Prop} {Q : Exit → Act → World → Prop} (fr : Fr R) (sl x : Operand) (t : TypeId)
    (ho : o.op = .call { callee := .builtin .append, args := #[sl, x], argTypes := #[t, t] }) {i : TypeInfo} {z : Value} {bytes : Nat} (ht : P.underlying t = some (.slice e)) (hi : P.info? e = some i) (hz : i.zero = some z)
    (hsize : i.size = s) (hby : i.bytes = bytes) (hzs : z.cells.size = s) (hsz : 0 < s) (hs : a.eval sl = v) (h : OL e s R w base v xs)
    (A : Option Addr) (cap : Nat) (c : List Value) (x0 : α) (hx : a.eval x = .slice A 1 cap) (hc : c.length = s) (hr : Src w A c) (h1 : ∀ u ∈ c, u.oneCell' = true) (hR : R w (fun b => base ≤ b ∧ b < w.heap.size ∧ v.ownBlock ≠ some b) c x0)
    (hl : xs.length ≤ 4294967296) (hbb : bytes ≤ 1024) (hbase : base ≤ w.heap.size)
    (hK : ∀ v' w', OL e s R w' base v' (xs ++ [x0]) → Mv w w' v v' → K (a.put o.dst v') w') : o.wp P a w K Q := by
  obtain ⟨cs, h2, h3⟩ := h
  refine wp_append_src w sl x t ho base e i z s bytes ht hi hz hsize hby hzs hsz v xs.length cs hs h2 A 1 cap c hx (by rw [hc, Nat.one_mul]) hr h1 (by simp only [maxLen]; omega) (fun old ho => ?_) hbase (fun v' w' h4 h5 h6 => hK v' w' ?_ ?_)
  · have := nextslicecap_le54 ho
    calc Builtin.nextslicecap (xs.length + 1) old * bytes ≤ 6000000000 * 1024 := Nat.mul_le_mul (by omega) hbb
      _ ≤ _ := by omega
  · have hon : Only (fun k => v.ownBlock = some k) w w' := ⟨h5.os, h5.tape, h5.output, h5.size, fun k hk hn => h5.block k hk (fun e => hn e.symm)⟩
    have hP : ∀ b, (base ≤ b ∧ b < w.heap.size ∧ v.ownBlock ≠ some b) → (base ≤ b ∧ b < w'.heap.size ∧ v'.ownBlock ≠ some b) := fun b hb => ⟨hb.1, Nat.lt_of_lt_of_le hb.2.1 h5.size, fun e => by
      rcases h6 with e' | e'
      · exact hb.2.2 (by rw [← e', e])
      · rw [e'] at e; injection e with e; omega⟩
    refine ⟨cs ++ c, by rw [List.length_append, List.length_singleton]; exact h4, RowsR.snoc (h3.mono (fun _ _ _ h => fr _ _ _ w w' _ _ h hon (fun b hb => hb.2.2) hP)) hc (fr _ _ _ w w' _ _ hR hon (fun b hb => hb.2.2) hP)⟩
  · refine ⟨h5, fun k hk hn => ?_⟩
    rcases h6 with e' | e'
    · rw [e']; exact hn
    · rw [e']; intro e; injection e; omega
theorem wpList_ol {P : Program} {ops : Array Oper} {rest : List Oper} {o : Oper} {a : Act} {Q : Exit → Act → World → Prop} (fr : Fr R) (hgd : o.guard = none) (sl x : Operand) (t : TypeId)
    (ho : o.op = .call { callee := .builtin .append, args := #[sl, x], argTypes := #[t, t] }) {i : TypeInfo} {z : Value} {bytes : Nat} (ht : P.underlying t = some (.slice e)) (hi : P.info? e = some i) (hz : i.zero = some z)
    (hsize : i.size = s) (hby : i.bytes = bytes) (hzs : z.cells.size = s) (hsz : 0 < s) (hs : a.eval sl = v) (h : OL e s R w base v xs)
    (A : Option Addr) (cap : Nat) (c : List Value) (x0 : α) (hx : a.eval x = .slice A 1 cap) (hc : c.length = s) (hr : Src w A c) (h1 : ∀ u ∈ c, u.oneCell' = true) (hR : R w (fun b => base ≤ b ∧ b < w.heap.size ∧ v.ownBlock ≠ some b) c x0)
    (hl : xs.length ≤ 4294967296) (hbb : bytes ≤ 1024) (hbase : base ≤ w.heap.size)
    (hK : ∀ v' w', OL e s R w' base v' (xs ++ [x0]) → Mv w w' v v' → wpList P ops Q rest (a.put o.dst v') w') : wpList P ops Q (o :: rest) a w :=
  wpList_plain hgd fun _ hk => wp_ol fr sl x t ho ht hi hz hsize hby hzs hsz hs h A cap c x0 hx hc hr h1 hR hl hbb hbase fun v' w' h1 h2 => hk _ _ (hK v' w' h1 h2)
theorem step_ol {P : Program} {ops : Array Oper} {E : Prop} {o : Oper} {a : Act} {K : Act → World → Prop} {Q : Exit → Act → World → Prop} (fr : Fr R) (hgd : o.guard = none) (sl x : Operand) (t : TypeId)
    (ho : o.op = .call { callee := .builtin .append, args := #[sl, x], argTypes := #[t, t] }) {i : TypeInfo} {z : Value} {bytes : Nat} (ht : P.underlying t = some (.slice e)) (hi : P.info? e = some i) (hz : i.zero = some z)
    (hsize : i.size = s) (hby : i.bytes = bytes) (hzs : z.cells.size = s) (hsz : 0 < s) (hs : a.eval sl = v) (h : OL e s R w base v xs)
    (A : Option Addr) (cap : Nat) (c : List Value) (x0 : α) (hx : a.eval x = .slice A 1 cap) (hc : c.length = s) (hr : Src w A c) (h1 : ∀ u ∈ c, u.oneCell' = true) (hR : R w (fun b => base ≤ b ∧ b < w.heap.size ∧ v.ownBlock ≠ some b) c x0)
    (hl : xs.length ≤ 4294967296) (hbb : bytes ≤ 1024) (hbase : base ≤ w.heap.size)
    (hK : ∀ v' w', OL e s R w' base v' (xs ++ [x0]) → Mv w w' v v' → K (a.put o.dst v') w') : if Region.wanted o (yielded ops a.tmps) = true then Oper.wp P o a w K Q else E := by
  rw [if_pos (by simp [Region.wanted, hgd])]
  exact wp_ol fr sl x t ho ht hi hz hsize hby hzs hsz hs h A cap c x0 hx hc hr h1 hR hl hbb hbase hK
end
/-- A slice of bytes as an element. -/
def SlR (w : World) (P : Nat → Prop) (c : List Value) (l : List UInt8) : Prop := ∃ A cap, c = [.slice A l.length cap] ∧ l.length ≤ cap ∧ l.length ≤ 140737488351232 ∧ BytesAt w A l ∧ ∀ p, A = some p → P p.block
theorem SlR.fr : Fr SlR := fun _ _ _ _ _ _ _ ⟨A, cap, h1, h2, h3, h4, h5⟩ ho hF hP => ⟨A, cap, h1, h2, h3, ho.bytes h4 (fun p hp => hF _ (h5 p hp)), fun p hp => hP _ (h5 p hp)⟩
theorem OpR.fr : Fr OpR := fun _ _ _ _ _ _ _ h ho hF hP => (h.only ho hF).mono hP
theorem TxR.fr : Fr TxR := fun _ _ _ _ _ _ _ h ho hF hP => (h.only ho hF).mono hP
abbrev BL := OL 25 1 SlR
theorem RowsR.bb {w : World} {P : Nat → Prop} {A : Option Addr} {cs : List Value} {ls : List (List UInt8)} (h : RowsR 1 (SlR w P) cs ls) (hs : Src w A cs) : BB w A ls := by
  rcases hs with rfl | ⟨b, off, rfl, hs⟩
  · left
    have := h.1
    simp at this
    exact List.eq_nil_of_length_eq_zero this.symm
  · refine .inr ⟨b, off, rfl, fun i l hl => ?_⟩
    obtain ⟨c, ⟨A', cap, rfl, h2, h3, h4, h5⟩, _, hc⟩ := h.at_ hl
    refine ⟨h3, A', cap, h2, hs i _ ?_, h4⟩
    have := hc 0 (by omega)
    simpa using this
theorem OL.bb {w : World} {base : Nat} {v : Value} {ls : List (List UInt8)} (h : BL w base v ls) : ∃ A cap, v = .slice A ls.length cap ∧ ls.length ≤ cap ∧ BB w A ls := by
  obtain ⟨cs, h1, h2⟩ := h
  obtain ⟨A, cap, rfl, h3, h4, h5⟩ := own_src h1
  exact ⟨A, cap, rfl, h3, h2.bb h4⟩
theorem NB.slR {w w' : World} {l : List UInt8} {A : Option Addr} {n cap : Nat} (h : l.length = n ∧ n ≤ cap ∧ BytesAt w' A l ∧ (∀ p, A = some p → w.heap.size ≤ p.block ∧ p.block < w'.heap.size) ∧ Below w.heap.size w w') (hl : l.length ≤ 140737488351232) : SlR w' (fun b => w.heap.size ≤ b ∧ b < w'.heap.size) [.slice A n cap] l := by
  obtain ⟨rfl, h2, h3, h4, h5⟩ := h
  exact ⟨A, cap, rfl, h2, hl, h3, h4⟩
end Go.Proofs.YtljmklohgpaopaaGreatDoor
