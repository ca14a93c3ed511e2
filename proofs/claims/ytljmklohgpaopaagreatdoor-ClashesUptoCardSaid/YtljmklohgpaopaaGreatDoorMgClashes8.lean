/- The codec's op: what the walk needs of the plain side. The walk of the codec's op. Laws over any program: in a region that draws its order a load may be taken first of a cell that the region itself writes behind an operation that waits for the load. The codec's Read: what the walk needs of the plain side. -/
import Derived.Test.YtljmklohgpaopaaGreatDoorMgClashes7
import Derived.OrdersHeld
import Derived.Deep.RegionHeld
set_option linter.unusedVariables false
set_option linter.unusedSimpArgs false

namespace Go.Proofs.YtljmklohgpaopaaGreatDoor
open Go.RowKit

/-- What follows an op's kind and table. -/
def opTail (K : Nat) (nm l : List UInt8) : Option (Pl.Opn × List UInt8) :=
  if K = 1 then (Pl.pCols l).bind fun z => some (⟨1, nm, z.1, []⟩, z.2)
  else if K = 2 ∨ K = 3 then (Pl.pRow l).bind fun z => some (⟨K, nm, [], z.1⟩, z.2)
  else if K = 4 then (Pl.pVal l).bind fun z => some (⟨4, nm, [], [z.1]⟩, z.2)
  else none
theorem pOp_eq (l : List UInt8) : Pl.pOp l = if l.length < 1 then none else (Pl.pName (l.drop 1)).bind fun y => opTail (Pl.num (l.take 1)) y.1 y.2 := by
  unfold Pl.pOp
  rw [tk_eq]
  by_cases h : l.length < 1
  · rw [if_pos h, if_pos h]; rfl
  · rw [if_neg h, if_neg h]; rfl
theorem op_end {l l1 l2 l3 nm : List UInt8} {K : Nat} {bad bad2 bad3 : Bool} {o : Pl.Opn} (hpe : Pl.pOp l = if l.length < 1 then none else (Pl.pName l1).bind fun y => opTail K y.1 y.2)
    (hb2 : bad2 = ((bad || decide (l.length < 1)) || (Pl.pName l1).isNone)) (ho2 : ∀ y r, Pl.pName l1 = some (y, r) → nm = y ∧ l2 = r)
    (hb3 : bad3 = (bad2 || (opTail K nm l2).isNone)) (ho3 : bad3 = false → opTail K nm l2 = some (o, l3)) :
    bad3 = (bad || (Pl.pOp l).isNone) ∧ (bad3 = false → Pl.pOp l = some (o, l3)) := by
  rw [hpe]
  by_cases c1 : l.length < 1
  · rw [if_pos c1]
    subst hb2
    rw [hb3]
    simp [c1]
  · rw [if_neg c1]
    cases hp : Pl.pName l1 with
    | none =>
      rw [hp] at hb2
      subst hb2
      rw [hb3]
      simp
    | some y =>
      obtain ⟨y, r⟩ := y
      obtain ⟨rfl, rfl⟩ := ho2 y r hp
      rw [hp] at hb2
      subst hb2
      refine ⟨?_, ho3⟩
      rw [hb3]
      simp [c1]
theorem tail_bind {α β : Type} {p : Option (α × List UInt8)} {f : α → β} {bad bad' : Bool} {x : α} {l : List UInt8} (hb : bad' = (bad || p.isNone)) (ho : bad' = false → p = some (x, l)) :
    bad' = (bad || (p.bind fun z => some (f z.1, z.2)).isNone) ∧ (bad' = false → (p.bind fun z => some (f z.1, z.2)) = some (f x, l)) := by
  refine ⟨?_, fun h => by rw [ho h]; rfl⟩
  rw [hb]
  cases p <;> rfl
def OpB (o : Pl.Opn) : Prop := o.kind < 256 ∧ o.table.length ≤ 255 ∧ (o.cols.length < 256 ∧ ∀ x ∈ o.cols, ClB x) ∧ o.row.length < 256 ∧ ∀ x ∈ o.row, VlB x
/-- A value is an op whose rows this call made. -/
def OpV (w : World) (B : Nat) (v : Value) (o : Pl.Opn) : Prop :=
  ∃ va vb, v = .agg #[.int .i64 (o.kind : Nat), .string (tstr o.table), va, vb] ∧ w.ownsRow B 224 2 va o.cols.length (clcs o.cols) ∧ w.ownsRow B 122 3 vb o.row.length (vcs o.row)
def OpPost (w : World) (g : Nat) (l : List UInt8) (bad : Bool) (e : Ending) (w' : World) : Prop :=
  ∃ v o, e = .returned v ∧ OpV w' w.heap.size v o ∧ OpB o ∧ Rd2 (Pl.pOp l) g bad o w w'
theorem results_op {fn : Func} {t : Tmp} {tmps : Array Value} {w : World} {g : Nat} {a b c d : Value} (h : fn.results = #[.cell t 259]) (ht : tmps.getD t undef = .pointer (some ⟨g, 0, none⟩)) (hB : Blk w g 259 [a, b, c, d]) :
    (results fn tmps).run Tryz.prog w = .ok (.agg #[a, b, c, d]) w := by
  have c0 := hB.cell 0
  have c1 := hB.cell 1
  have c2 := hB.cell 2
  have c3 := hB.cell 3
  simp only [List.getElem?_cons_succ, List.getElem?_cons_zero] at c0 c1 c2 c3
  simp only [Array.getD_eq_getD_getElem?] at ht
  simp [results, h, ht, go_sem, c0, c1, c2, c3, asAddr]
end Go.Proofs.YtljmklohgpaopaaGreatDoor

namespace Go.Proofs.YtljmklohgpaopaaGreatDoor
open Go.RowKit

theorem own_base {w : World} {base b' n size : Nat} {e : TypeId} {v : Value} {xs : List Value} (h : w.ownsRow base e size v n xs) (hb : b' ≤ base) : w.ownsRow b' e size v n xs := by
  refine ⟨h.1, ?_⟩
  rcases h.2 with hn | ⟨g, cap, cur, rfl, hb1, rest⟩
  · exact .inl hn
  · exact .inr ⟨g, cap, cur, rfl, Nat.le_trans hb hb1, rest⟩
set_option maxHeartbeats 2000000 in
theorem op_any (g : Nat) (l : List UInt8) (bad : Bool) (w : World) (h : Rdr w g l bad) :
    Calls Tryz.prog 170 #[.pointer (some ⟨g, 0, none⟩)] w (OpPost w g l bad) := by
  have hgl : g < w.heap.size := h.lt
  have hn := Pl.num_take_lt l 1
  have hpe := pOp_eq l
  obtain ⟨K, hK⟩ : ∃ n, Pl.num (l.take 1) = n := ⟨_, rfl⟩
  obtain ⟨l1, hl1⟩ : ∃ l1, l.drop 1 = l1 := ⟨_, rfl⟩
  obtain ⟨b2, hb2⟩ : ∃ b2, w.heap.size = b2 := ⟨_, rfl⟩
  obtain ⟨w0, hw0⟩ : ∃ w0, w.alloc (.cells #[.int .i64 0, .string ⟨#[]⟩, .slice none 0 0, .slice none 0 0] 259) = w0 := ⟨_, rfl⟩
  have hb0 : Below w.heap.size w w0 := by rw [← hw0]; exact (Below.refl _ _).alloc (Nat.le_refl _) _
  have B0 : Blk w0 b2 259 [.int .i64 0, .string ⟨#[]⟩, .slice none 0 0, .slice none 0 0] := by rw [← hw0, ← hb2]; exact Blk.new w 259 _
  have HNUM := Lib.hid (num_any g 1 l bad w0 (h.below hb0) (by omega))
  rw [hK, hl1] at HNUM hpe
  rw [hK] at hn
  have hK' : K < 256 := by simpa using hn
  have HPE := Lib.hid hpe
  have HB0 := Lib.hid B0
  have HO0 := Lib.hid (Only.of_below hb0 (· = g))
  have hgb : g ≠ b2 := by omega
  clear hpe hb0 B0 h hK hl1 hn
  go_enter Tryz.func170, Tryz.ntmps170
  go_wp2_with fail
  refine HNUM.out.mono ?_
  rintro e w1 ⟨rfl, hR1, hg1⟩
  have HO1 := Lib.hid (HO0.out.trans' (Only.of_grown hg1))
  have HB1 := Lib.hid (HB0.out.grown hg1 (by simpa using Ne.symm hgb))
  obtain ⟨b3, hb3⟩ : ∃ b3, w1.heap.size = b3 := ⟨_, rfl⟩
  obtain ⟨wz, hwz⟩ : ∃ wz, w1.alloc (.cells #[.int .i64 0, .string ⟨#[]⟩, .slice none 0 0, .slice none 0 0] 259) = wz := ⟨_, rfl⟩
  have hbz : Below w1.heap.size w1 wz := by rw [← hwz]; exact (Below.refl _ _).alloc (Nat.le_refl _) _
  have BZ : Blk wz b3 259 [.int .i64 0, .string ⟨#[]⟩, .slice none 0 0, .slice none 0 0] := by rw [← hwz, ← hb3]; exact Blk.new w1 259 _
  obtain ⟨z0, z1, z2, z3, e0, e1, e2, e3⟩ := facts4 BZ
  obtain ⟨w1a, hw1a⟩ : ∃ w1a, (((wz.setCell ⟨b3, 0, none⟩ (.int .i64 (K : Int))).setCell ⟨b3, 1, none⟩ (.string ⟨#[]⟩)).setCell ⟨b3, 2, none⟩ (.slice none 0 0)).setCell ⟨b3, 3, none⟩ (.slice none 0 0) = w1a := ⟨_, rfl⟩
  have hb1a : Below w1.heap.size w1 w1a := by
    rw [← hw1a]
    have h1 : w1.heap.size ≤ b3 := by omega
    exact (((hbz.setCell (p := ⟨b3, 0, none⟩) h1 _).setCell (p := ⟨b3, 1, none⟩) h1 _).setCell (p := ⟨b3, 2, none⟩) h1 _).setCell (p := ⟨b3, 3, none⟩) h1 _
  have BV : Blk w1a b3 259 [.int .i64 (K : Int), .string ⟨#[]⟩, .slice none 0 0, .slice none 0 0] := by
    rw [← hw1a]
    exact (((BZ.set_ 0 _).set_ 1 _).set_ 2 _).set_ 3 _
  have HR1a := Lib.hid (hR1.below hb1a)
  have HB1a := Lib.hid (HB1.out.below hb1a HB1.out.lt)
  have HO1a := Lib.hid (HO1.out.below hb1a)
  have HBV := Lib.hid BV
  have hs1 : w.heap.size ≤ w1.heap.size := HO1.out.size
  have hg3 : g ≠ b3 := by omega
  have h23 : b2 ≠ b3 := by
    have := HB1.out.lt
    omega
  have HNAME := Lib.hid (name_any g l1 _ w1a HR1a.out)
  clear hR1 hg1 hb1a BV hbz BZ
  go_wp2_with fail
  refine HNAME.out.mono ?_
  rintro e w2 ⟨nm, rfl, hnl, l2, bad2, hR2, hb2x, ho2x, hon2⟩
  have HB2 := Lib.hid (hon2.blk HB1a.out (Ne.symm hgb))
  have hv2 := hon2.blk HBV.out (Ne.symm hg3)
  have HO2 := Lib.hid (HO1a.out.trans' hon2)
  obtain ⟨c0, c1, c2, c3, f0, f1, f2, f3⟩ := facts4 hv2
  obtain ⟨w3, hw3⟩ : ∃ w3, w2.setCell ⟨b3, 1, none⟩ (.string (tstr nm)) = w3 := ⟨_, rfl⟩
  have hv3 : Blk w3 b3 259 [.int .i64 (K : Int), .string (tstr nm), .slice none 0 0, .slice none 0 0] := by rw [← hw3]; exact hv2.set_ 1 _
  have ho3 : Only (· = b3) w2 w3 := by rw [← hw3]; exact (Only.refl (· = b3) w2).setCell (p := ⟨b3, 1, none⟩) (.inl rfl) _
  have HV3 := Lib.hid hv3
  have HB3 := Lib.hid (ho3.blk HB2.out h23)
  have HR3 := Lib.hid (hR2.only ho3 (fun x hx e => by omega))
  have HO3 : Hid (Only (· = g) w w3) := HO2.out.trans ho3 (fun k hk e => by omega)
  have HB2X := Lib.hid hb2x
  have HO2X := Lib.hid ho2x
  obtain ⟨d0, d1, d2, d3, k0, k1, k2, k3⟩ := facts4 hv3
  clear hv2 hR2 hv3 ho3 hb2x ho2x hon2 HNAME
  by_cases t1 : K = 1
  · have q1 : (((K : Nat) : Int) == 1) = true := by rw [t1]; rfl
    have HC := Lib.hid (columns_any g l2 bad2 w3 HR3.out)
    have HT := Lib.hid t1
    clear t1
    go_wp2_with fail
    refine HC.out.mono ?_
    rintro e w4 ⟨vv, cols, rfl, hown4, hcl, hcb, l3, bad3, hR4, hb4, hok4, ho4⟩
    obtain ⟨Av, capv, rfl, _, _, _⟩ := own_src hown4
    obtain ⟨nv, hnv⟩ : ∃ nv, cols.length = nv := ⟨_, rfl⟩
    rw [hnv] at hown4
    have HNV := Lib.hid hnv
    rw [hnv]
    clear hnv
    have htl : opTail K nm l2 = (Pl.pCols l2).bind fun z => some (⟨1, nm, z.1, []⟩, z.2) := by unfold opTail; rw [if_pos HT.out]
    have htb := tail_bind (f := fun z => (⟨1, nm, z, []⟩ : Pl.Opn)) hb4 hok4
    rw [← htl] at htb
    rw [show (⟨1, nm, cols, []⟩ : Pl.Opn) = ⟨K, nm, cols, []⟩ by rw [HT.out]] at htb
    have HTB := Lib.hid htb
    clear htb htl hb4 hok4 HC d0 d1 d2 d3 k0 k1 k2 k3 c0 c1 c2 c3 f0 f1 f2 f3
    have hv4 := ho4.blk HV3.out (Ne.symm hg3)
    have HB4 := Lib.hid (ho4.blk HB3.out (Ne.symm hgb))
    have HO4 := Lib.hid (HO3.out.trans' ho4)
    have hs4 : w.heap.size ≤ w3.heap.size := HO3.out.size
    have h34 := ho4.size
    have hb3lt := HV3.out.lt
    have hb2lt := HB3.out.lt
    obtain ⟨c0, c1, c2, c3, f0, f1, f2, f3⟩ := facts4 hv4
    obtain ⟨w5, hw5⟩ : ∃ w5, w4.setCell ⟨b3, 2, none⟩ (.slice Av nv capv) = w5 := ⟨_, rfl⟩
    have hv5 : Blk w5 b3 259 [.int .i64 (K : Int), .string (tstr nm), .slice Av nv capv, .slice none 0 0] := by rw [← hw5]; exact hv4.set_ 2 _
    have ho5 : Only (· = b3) w4 w5 := by rw [← hw5]; exact (Only.refl (· = b3) w4).setCell (p := ⟨b3, 2, none⟩) (.inl rfl) _
    have hB5 := ho5.blk HB4.out h23
    have HR5 := Lib.hid (hR4.only ho5 (fun x hx e => by omega))
    have HO5 : Hid (Only (· = g) w w5) := HO4.out.trans ho5 (fun k hk e => by omega)
    have hown5 := Lib.hid (ho5.own hown4 (fun x hx e => by
      have := (hown4.lt x hx).1
      omega))
    obtain ⟨d0, d1, d2, d3, k0, k1, k2, k3⟩ := facts4 hv5
    obtain ⟨e0, e1, e2, e3, j0, j1, j2, j3⟩ := facts4 hB5
    obtain ⟨w6, hw6⟩ : ∃ w6, (((w5.setCell ⟨b2, 0, none⟩ (.int .i64 (K : Int))).setCell ⟨b2, 1, none⟩ (.string (tstr nm))).setCell ⟨b2, 2, none⟩ (.slice Av nv capv)).setCell ⟨b2, 3, none⟩ (.slice none 0 0) = w6 := ⟨_, rfl⟩
    have HB6 := Lib.hid (show Blk w6 b2 259 [.int .i64 (K : Int), .string (tstr nm), .slice Av nv capv, .slice none 0 0] by rw [← hw6]; exact (((hB5.set_ 0 _).set_ 1 _).set_ 2 _).set_ 3 _)
    have ho6 : Only (· = b2) w5 w6 := by
      rw [← hw6]
      exact ((((Only.refl (· = b2) w5).setCell (p := ⟨b2, 0, none⟩) (.inl rfl) _).setCell (p := ⟨b2, 1, none⟩) (.inl rfl) _).setCell (p := ⟨b2, 2, none⟩) (.inl rfl) _).setCell (p := ⟨b2, 3, none⟩) (.inl rfl) _
    have HR6 := Lib.hid (HR5.out.only ho6 (fun x hx e => by omega))
    have HO6 : Hid (Only (· = g) w w6) := HO5.out.trans ho6 (fun k hk e => by omega)
    have hown6 := Lib.hid (own_base (ho6.own hown5.out (fun x hx e => by
      have := (hown5.out.lt x hx).1
      omega)) hs4)
    have HD := Lib.hid (op_end (nm := nm) (l2 := l2) (l3 := l3) (o := (⟨K, nm, cols, []⟩ : Pl.Opn)) HPE.out HB2X.out HO2X.out (HTB.out).1 (HTB.out).2)
    clear hR4 ho4 hv4 hown4 hv5 ho5 hB5 ho6
    go_wp2_with fail
    refine bodyPost_ret (results_op rfl rfl HB6.out) rfl ⟨_, (⟨K, nm, cols, []⟩ : Pl.Opn), rfl, ⟨_, _, rfl, (by rw [HNV.out]; exact hown6.out), World.ownsRow_nil _ _ _ _⟩, ⟨hK', hnl, ⟨hcl, hcb⟩, by simp, by simp⟩, l3, bad3, HR6.out, HD.out.1, HD.out.2, HO6.out⟩
  · by_cases t2 : K = 2
    · have HC := Lib.hid (row_any g l2 bad2 w3 HR3.out)
      have q1 : (((K : Nat) : Int) == 1) = false := beq_eq_false_iff_ne.2 (by omega)
      have q2 : (((K : Nat) : Int) == 2) = true := by rw [t2]; rfl
      have htl : opTail K nm l2 = (Pl.pRow l2).bind fun z => some (⟨K, nm, [], z.1⟩, z.2) := by unfold opTail; rw [if_neg (by omega), if_pos (by omega)]
      have HTL := Lib.hid htl
      clear htl
      have HT := Lib.hid t2
      clear t1 t2
      go_wp2_with fail
      refine HC.out.mono ?_
      rintro e w4 ⟨vv, row, rfl, hown4, hrl, hrb, l3, bad3, hR4, hb4, hok4, ho4⟩
      obtain ⟨Av, capv, rfl, _, _, _⟩ := own_src hown4
      obtain ⟨nv, hnv⟩ : ∃ nv, row.length = nv := ⟨_, rfl⟩
      rw [hnv] at hown4
      have HNV := Lib.hid hnv
      rw [hnv]
      have HRL := Lib.hid hrl
      clear hnv hrl
      have htb := tail_bind (f := fun z => (⟨K, nm, [], z⟩ : Pl.Opn)) hb4 hok4
      rw [← HTL.out] at htb
      have HTB := Lib.hid htb
      clear htb hb4 hok4 HC d0 d1 d2 d3 k0 k1 k2 k3 c0 c1 c2 c3 f0 f1 f2 f3
      have hv4 := ho4.blk HV3.out (Ne.symm hg3)
      have HB4 := Lib.hid (ho4.blk HB3.out (Ne.symm hgb))
      have HO4 := Lib.hid (HO3.out.trans' ho4)
      have hs4 : w.heap.size ≤ w3.heap.size := HO3.out.size
      have h34 := ho4.size
      have hb3lt := HV3.out.lt
      have hb2lt := HB3.out.lt
      obtain ⟨c0, c1, c2, c3, f0, f1, f2, f3⟩ := facts4 hv4
      obtain ⟨w5, hw5⟩ : ∃ w5, w4.setCell ⟨b3, 3, none⟩ (.slice Av nv capv) = w5 := ⟨_, rfl⟩
      have hv5 : Blk w5 b3 259 [.int .i64 (K : Int), .string (tstr nm), .slice none 0 0, .slice Av nv capv] := by rw [← hw5]; exact hv4.set_ 3 _
      have ho5 : Only (· = b3) w4 w5 := by rw [← hw5]; exact (Only.refl (· = b3) w4).setCell (p := ⟨b3, 3, none⟩) (.inl rfl) _
      have hB5 := ho5.blk HB4.out h23
      have HR5 := Lib.hid (hR4.only ho5 (fun x hx e => by omega))
      have HO5 : Hid (Only (· = g) w w5) := HO4.out.trans ho5 (fun k hk e => by omega)
      have hown5 := Lib.hid (ho5.own hown4 (fun x hx e => by
        have := (hown4.lt x hx).1
        omega))
      obtain ⟨d0, d1, d2, d3, k0, k1, k2, k3⟩ := facts4 hv5
      obtain ⟨e0, e1, e2, e3, j0, j1, j2, j3⟩ := facts4 hB5
      obtain ⟨w6, hw6⟩ : ∃ w6, (((w5.setCell ⟨b2, 0, none⟩ (.int .i64 (K : Int))).setCell ⟨b2, 1, none⟩ (.string (tstr nm))).setCell ⟨b2, 2, none⟩ (.slice none 0 0)).setCell ⟨b2, 3, none⟩ (.slice Av nv capv) = w6 := ⟨_, rfl⟩
      have HB6 := Lib.hid (show Blk w6 b2 259 [.int .i64 (K : Int), .string (tstr nm), .slice none 0 0, .slice Av nv capv] by rw [← hw6]; exact (((hB5.set_ 0 _).set_ 1 _).set_ 2 _).set_ 3 _)
      have ho6 : Only (· = b2) w5 w6 := by
        rw [← hw6]
        exact ((((Only.refl (· = b2) w5).setCell (p := ⟨b2, 0, none⟩) (.inl rfl) _).setCell (p := ⟨b2, 1, none⟩) (.inl rfl) _).setCell (p := ⟨b2, 2, none⟩) (.inl rfl) _).setCell (p := ⟨b2, 3, none⟩) (.inl rfl) _
      have HR6 := Lib.hid (HR5.out.only ho6 (fun x hx e => by omega))
      have HO6 : Hid (Only (· = g) w w6) := HO5.out.trans ho6 (fun k hk e => by omega)
      have hown6 := Lib.hid (own_base (ho6.own hown5.out (fun x hx e => by
        have := (hown5.out.lt x hx).1
        omega)) hs4)
      have HD := Lib.hid (op_end (nm := nm) (l2 := l2) (l3 := l3) (o := (⟨K, nm, [], row⟩ : Pl.Opn)) HPE.out HB2X.out HO2X.out (HTB.out).1 (HTB.out).2)
      clear hR4 ho4 hv4 hown4 hv5 ho5 hB5 ho6
      go_wp2_with fail
      refine bodyPost_ret (results_op rfl rfl HB6.out) rfl ⟨_, (⟨K, nm, [], row⟩ : Pl.Opn), rfl, ⟨_, _, rfl, World.ownsRow_nil _ _ _ _, (by rw [HNV.out]; exact hown6.out)⟩, ⟨hK', hnl, ⟨by simp, by simp⟩, HRL.out, hrb⟩, l3, bad3, HR6.out, HD.out.1, HD.out.2, HO6.out⟩
    · by_cases t3 : K = 3
      · have HC := Lib.hid (row_any g l2 bad2 w3 HR3.out)
        have q1 : (((K : Nat) : Int) == 1) = false := beq_eq_false_iff_ne.2 (by omega)
        have q2 : (((K : Nat) : Int) == 2) = false := beq_eq_false_iff_ne.2 (by omega)
        have q3 : (((K : Nat) : Int) == 3) = true := by rw [t3]; rfl
        have htl : opTail K nm l2 = (Pl.pRow l2).bind fun z => some (⟨K, nm, [], z.1⟩, z.2) := by unfold opTail; rw [if_neg (by omega), if_pos (by omega)]
        have HTL := Lib.hid htl
        clear htl
        have HT := Lib.hid t3
        clear t1 t2 t3
        go_wp2_with fail
        refine HC.out.mono ?_
        rintro e w4 ⟨vv, row, rfl, hown4, hrl, hrb, l3, bad3, hR4, hb4, hok4, ho4⟩
        obtain ⟨Av, capv, rfl, _, _, _⟩ := own_src hown4
        obtain ⟨nv, hnv⟩ : ∃ nv, row.length = nv := ⟨_, rfl⟩
        rw [hnv] at hown4
        have HNV := Lib.hid hnv
        rw [hnv]
        have HRL := Lib.hid hrl
        clear hnv hrl
        have htb := tail_bind (f := fun z => (⟨K, nm, [], z⟩ : Pl.Opn)) hb4 hok4
        rw [← HTL.out] at htb
        have HTB := Lib.hid htb
        clear htb hb4 hok4 HC d0 d1 d2 d3 k0 k1 k2 k3 c0 c1 c2 c3 f0 f1 f2 f3
        have hv4 := ho4.blk HV3.out (Ne.symm hg3)
        have HB4 := Lib.hid (ho4.blk HB3.out (Ne.symm hgb))
        have HO4 := Lib.hid (HO3.out.trans' ho4)
        have hs4 : w.heap.size ≤ w3.heap.size := HO3.out.size
        have h34 := ho4.size
        have hb3lt := HV3.out.lt
        have hb2lt := HB3.out.lt
        obtain ⟨c0, c1, c2, c3, f0, f1, f2, f3⟩ := facts4 hv4
        obtain ⟨w5, hw5⟩ : ∃ w5, w4.setCell ⟨b3, 3, none⟩ (.slice Av nv capv) = w5 := ⟨_, rfl⟩
        have hv5 : Blk w5 b3 259 [.int .i64 (K : Int), .string (tstr nm), .slice none 0 0, .slice Av nv capv] := by rw [← hw5]; exact hv4.set_ 3 _
        have ho5 : Only (· = b3) w4 w5 := by rw [← hw5]; exact (Only.refl (· = b3) w4).setCell (p := ⟨b3, 3, none⟩) (.inl rfl) _
        have hB5 := ho5.blk HB4.out h23
        have HR5 := Lib.hid (hR4.only ho5 (fun x hx e => by omega))
        have HO5 : Hid (Only (· = g) w w5) := HO4.out.trans ho5 (fun k hk e => by omega)
        have hown5 := Lib.hid (ho5.own hown4 (fun x hx e => by
          have := (hown4.lt x hx).1
          omega))
        obtain ⟨d0, d1, d2, d3, k0, k1, k2, k3⟩ := facts4 hv5
        obtain ⟨e0, e1, e2, e3, j0, j1, j2, j3⟩ := facts4 hB5
        obtain ⟨w6, hw6⟩ : ∃ w6, (((w5.setCell ⟨b2, 0, none⟩ (.int .i64 (K : Int))).setCell ⟨b2, 1, none⟩ (.string (tstr nm))).setCell ⟨b2, 2, none⟩ (.slice none 0 0)).setCell ⟨b2, 3, none⟩ (.slice Av nv capv) = w6 := ⟨_, rfl⟩
        have HB6 := Lib.hid (show Blk w6 b2 259 [.int .i64 (K : Int), .string (tstr nm), .slice none 0 0, .slice Av nv capv] by rw [← hw6]; exact (((hB5.set_ 0 _).set_ 1 _).set_ 2 _).set_ 3 _)
        have ho6 : Only (· = b2) w5 w6 := by
          rw [← hw6]
          exact ((((Only.refl (· = b2) w5).setCell (p := ⟨b2, 0, none⟩) (.inl rfl) _).setCell (p := ⟨b2, 1, none⟩) (.inl rfl) _).setCell (p := ⟨b2, 2, none⟩) (.inl rfl) _).setCell (p := ⟨b2, 3, none⟩) (.inl rfl) _
        have HR6 := Lib.hid (HR5.out.only ho6 (fun x hx e => by omega))
        have HO6 : Hid (Only (· = g) w w6) := HO5.out.trans ho6 (fun k hk e => by omega)
        have hown6 := Lib.hid (own_base (ho6.own hown5.out (fun x hx e => by
          have := (hown5.out.lt x hx).1
          omega)) hs4)
        have HD := Lib.hid (op_end (nm := nm) (l2 := l2) (l3 := l3) (o := (⟨K, nm, [], row⟩ : Pl.Opn)) HPE.out HB2X.out HO2X.out (HTB.out).1 (HTB.out).2)
        clear hR4 ho4 hv4 hown4 hv5 ho5 hB5 ho6
        go_wp2_with fail
        refine bodyPost_ret (results_op rfl rfl HB6.out) rfl ⟨_, (⟨K, nm, [], row⟩ : Pl.Opn), rfl, ⟨_, _, rfl, World.ownsRow_nil _ _ _ _, (by rw [HNV.out]; exact hown6.out)⟩, ⟨hK', hnl, ⟨by simp, by simp⟩, HRL.out, hrb⟩, l3, bad3, HR6.out, HD.out.1, HD.out.2, HO6.out⟩
      · by_cases t4 : K = 4
        · have HC := Lib.hid (value_any g l2 bad2 w3 HR3.out)
          have q1 : (((K : Nat) : Int) == 1) = false := beq_eq_false_iff_ne.2 (by omega)
          have q2 : (((K : Nat) : Int) == 2) = false := beq_eq_false_iff_ne.2 (by omega)
          have q3 : (((K : Nat) : Int) == 3) = false := beq_eq_false_iff_ne.2 (by omega)
          have q4 : (((K : Nat) : Int) == 4) = true := by rw [t4]; rfl
          have HTL : Hid (opTail K nm l2 = (Pl.pVal l2).bind fun z => some (⟨4, nm, [], [z.1]⟩, z.2)) := by unfold opTail; rw [Hid, if_neg (by omega), if_neg (by omega), if_pos (by omega)]
          have HT := Lib.hid t4
          clear t1 t2 t3 t4
          go_wp2_with fail
          refine HC.out.mono ?_
          rintro e wv ⟨x, rfl, hxb, hrd⟩
          obtain ⟨l3, bad3, hRv, hb4, hok4, hov⟩ := hrd.two
          have htb := tail_bind (f := fun z => (⟨4, nm, [], [z]⟩ : Pl.Opn)) hb4 hok4
          rw [← HTL.out] at htb
          rw [show (⟨4, nm, [], [x]⟩ : Pl.Opn) = ⟨K, nm, [], [x]⟩ by rw [HT.out]] at htb
          have HTB := Lib.hid htb
          have HXB : Hid (VlB x) := hxb
          obtain ⟨b4, hb4e⟩ : ∃ b4, wv.heap.size = b4 := ⟨_, rfl⟩
          obtain ⟨w4, hw4⟩ : ∃ w4, wv.alloc (.cells #[.int .i64 (x.ty : Nat), .int .i64 (sig x.n), .string (tstr x.s)] 122) = w4 := ⟨_, rfl⟩
          have hbv : Below wv.heap.size wv w4 := by rw [← hw4]; exact (Below.refl _ _).alloc (Nat.le_refl _) _
          have hR4 := hRv.below hbv
          have ho4 : Only (· = g) w3 w4 := hov.below hbv
          have hown4 : w4.ownsRow w3.heap.size 122 3 (.slice (some ⟨b4, 0, none⟩) 1 1) 1 (vcs [x]) := by
            rw [← hw4, ← hb4e]
            exact ⟨rfl, .inr ⟨wv.heap.size, 1, #[.int .i64 (x.ty : Nat), .int .i64 (sig x.n), .string (tstr x.s)], rfl, hov.size, heap_alloc_new wv _, Nat.le_refl _, by simp [maxLen], rfl, rfl⟩⟩
          unfold vlV
          clear htb hb4 hok4 hRv hov hbv hrd hxb HC d0 d1 d2 d3 k0 k1 k2 k3 c0 c1 c2 c3 f0 f1 f2 f3
          have hv4 := ho4.blk HV3.out (Ne.symm hg3)
          have HB4 := Lib.hid (ho4.blk HB3.out (Ne.symm hgb))
          have HO4 := Lib.hid (HO3.out.trans' ho4)
          have hs4 : w.heap.size ≤ w3.heap.size := HO3.out.size
          have h34 := ho4.size
          have hb3lt := HV3.out.lt
          have hb2lt := HB3.out.lt
          obtain ⟨c0, c1, c2, c3, f0, f1, f2, f3⟩ := facts4 hv4
          obtain ⟨w5, hw5⟩ : ∃ w5, w4.setCell ⟨b3, 3, none⟩ (.slice (some ⟨b4, 0, none⟩) 1 1) = w5 := ⟨_, rfl⟩
          have hv5 : Blk w5 b3 259 [.int .i64 (K : Int), .string (tstr nm), .slice none 0 0, .slice (some ⟨b4, 0, none⟩) 1 1] := by rw [← hw5]; exact hv4.set_ 3 _
          have ho5 : Only (· = b3) w4 w5 := by rw [← hw5]; exact (Only.refl (· = b3) w4).setCell (p := ⟨b3, 3, none⟩) (.inl rfl) _
          have hB5 := ho5.blk HB4.out h23
          have HR5 := Lib.hid (hR4.only ho5 (fun x hx e => by omega))
          have HO5 : Hid (Only (· = g) w w5) := HO4.out.trans ho5 (fun k hk e => by omega)
          have hown5 := Lib.hid (ho5.own hown4 (fun x hx e => by
            have := (hown4.lt x hx).1
            omega))
          obtain ⟨d0, d1, d2, d3, k0, k1, k2, k3⟩ := facts4 hv5
          obtain ⟨e0, e1, e2, e3, j0, j1, j2, j3⟩ := facts4 hB5
          obtain ⟨w6, hw6⟩ : ∃ w6, (((w5.setCell ⟨b2, 0, none⟩ (.int .i64 (K : Int))).setCell ⟨b2, 1, none⟩ (.string (tstr nm))).setCell ⟨b2, 2, none⟩ (.slice none 0 0)).setCell ⟨b2, 3, none⟩ (.slice (some ⟨b4, 0, none⟩) 1 1) = w6 := ⟨_, rfl⟩
          have HB6 := Lib.hid (show Blk w6 b2 259 [.int .i64 (K : Int), .string (tstr nm), .slice none 0 0, .slice (some ⟨b4, 0, none⟩) 1 1] by rw [← hw6]; exact (((hB5.set_ 0 _).set_ 1 _).set_ 2 _).set_ 3 _)
          have ho6 : Only (· = b2) w5 w6 := by
            rw [← hw6]
            exact ((((Only.refl (· = b2) w5).setCell (p := ⟨b2, 0, none⟩) (.inl rfl) _).setCell (p := ⟨b2, 1, none⟩) (.inl rfl) _).setCell (p := ⟨b2, 2, none⟩) (.inl rfl) _).setCell (p := ⟨b2, 3, none⟩) (.inl rfl) _
          have HR6 := Lib.hid (HR5.out.only ho6 (fun x hx e => by omega))
          have HO6 : Hid (Only (· = g) w w6) := HO5.out.trans ho6 (fun k hk e => by omega)
          have hown6 := Lib.hid (own_base (ho6.own hown5.out (fun x hx e => by
            have := (hown5.out.lt x hx).1
            omega)) hs4)
          have HD := Lib.hid (op_end (nm := nm) (l2 := l2) (l3 := l3) (o := (⟨K, nm, [], [x]⟩ : Pl.Opn)) HPE.out HB2X.out HO2X.out (HTB.out).1 (HTB.out).2)
          clear hR4 ho4 hv4 hown4 hv5 ho5 hB5 ho6
          go_wp2_with fail
          refine bodyPost_ret (results_op rfl rfl HB6.out) rfl ⟨_, (⟨K, nm, [], [x]⟩ : Pl.Opn), rfl, ⟨_, _, rfl, World.ownsRow_nil _ _ _ _, hown6.out⟩, ⟨hK', hnl, ⟨by simp, by simp⟩, by simp, by intro y hy; simp at hy; subst hy; exact HXB.out⟩, l3, bad3, HR6.out, HD.out.1, HD.out.2, HO6.out⟩
        · have q1 : (((K : Nat) : Int) == 1) = false := beq_eq_false_iff_ne.2 (by omega)
          have q2 : (((K : Nat) : Int) == 2) = false := beq_eq_false_iff_ne.2 (by omega)
          have q3 : (((K : Nat) : Int) == 3) = false := beq_eq_false_iff_ne.2 (by omega)
          have q4 : (((K : Nat) : Int) == 4) = false := beq_eq_false_iff_ne.2 (by omega)
          have HMU := Lib.hid (must_any g l2 bad2 false w3 HR3.out)
          have htl : opTail K nm l2 = none := by unfold opTail; rw [if_neg (by omega), if_neg (by omega), if_neg (by omega)]
          have HTB : Hid ((bad2 || !false) = (bad2 || (opTail K nm l2).isNone) ∧ ((bad2 || !false) = false → opTail K nm l2 = some ((⟨K, nm, [], []⟩ : Pl.Opn), l2))) := by rw [htl]; exact ⟨by simp, by simp⟩
          clear htl t1 t2 t3 t4
          go_wp2_with fail
          refine HMU.out.mono ?_
          rintro e w4 ⟨rfl, hR4, ho4⟩
          clear HMU d0 d1 d2 d3 k0 k1 k2 k3 c0 c1 c2 c3 f0 f1 f2 f3
          have hv4 := ho4.blk HV3.out (Ne.symm hg3)
          have HB4 := Lib.hid (ho4.blk HB3.out (Ne.symm hgb))
          have HO4 := Lib.hid (HO3.out.trans' ho4)
          have hs4 : w.heap.size ≤ w3.heap.size := HO3.out.size
          have h34 := ho4.size
          have hb3lt := HV3.out.lt
          have hb2lt := HB3.out.lt
          obtain ⟨c0, c1, c2, c3, f0, f1, f2, f3⟩ := facts4 hv4
          have hB4 := HB4.out
          obtain ⟨e0, e1, e2, e3, j0, j1, j2, j3⟩ := facts4 hB4
          obtain ⟨w6, hw6⟩ : ∃ w6, (((w4.setCell ⟨b2, 0, none⟩ (.int .i64 (K : Int))).setCell ⟨b2, 1, none⟩ (.string (tstr nm))).setCell ⟨b2, 2, none⟩ (.slice none 0 0)).setCell ⟨b2, 3, none⟩ (.slice none 0 0) = w6 := ⟨_, rfl⟩
          have HB6 := Lib.hid (show Blk w6 b2 259 [.int .i64 (K : Int), .string (tstr nm), .slice none 0 0, .slice none 0 0] by rw [← hw6]; exact (((hB4.set_ 0 _).set_ 1 _).set_ 2 _).set_ 3 _)
          have ho6 : Only (· = b2) w4 w6 := by
            rw [← hw6]
            exact ((((Only.refl (· = b2) w4).setCell (p := ⟨b2, 0, none⟩) (.inl rfl) _).setCell (p := ⟨b2, 1, none⟩) (.inl rfl) _).setCell (p := ⟨b2, 2, none⟩) (.inl rfl) _).setCell (p := ⟨b2, 3, none⟩) (.inl rfl) _
          have HR6 := Lib.hid (hR4.only ho6 (fun x hx e => by omega))
          have HO6 : Hid (Only (· = g) w w6) := HO4.out.trans ho6 (fun k hk e => by omega)
          have HD := Lib.hid (op_end (nm := nm) (l2 := l2) (l3 := l2) (o := (⟨K, nm, [], []⟩ : Pl.Opn)) HPE.out HB2X.out HO2X.out (HTB.out).1 (HTB.out).2)
          clear hR4 ho4 hv4 hB4 ho6
          go_wp2_with fail
          refine bodyPost_ret (results_op rfl rfl HB6.out) rfl ⟨_, (⟨K, nm, [], []⟩ : Pl.Opn), rfl, ⟨_, _, rfl, World.ownsRow_nil _ _ _ _, World.ownsRow_nil _ _ _ _⟩, ⟨hK', hnl, ⟨by simp, by simp⟩, by simp, by simp⟩, l2, _, HR6.out, HD.out.1, HD.out.2, HO6.out⟩
end Go.Proofs.YtljmklohgpaopaaGreatDoor

namespace Go.Proofs.YtljmklohgpaopaaGreatDoor
open Go

section
variable {P : Program} {ops : Array Oper} {Q : Exit → Act → World → Prop} {md : Region.Mode} {S : Array Bool → World → Prop} {C D : World → Prop} {m : Nat}

/-- As wpAnyH, but what holds of the world may hang on what has come up. -/
def wpL (P : Program) (md : Region.Mode) (ops : Array Oper) (Q : Exit → Act → World → Prop) (S : Array Bool → World → Prop) : Nat → Array Bool → Act → World → Prop
  | 0, L, a, w => Region.ready md ops L = [] ∧ Q .normal a w
  | f + 1, L, a, w =>
    (Region.ready md ops L = [] → Q .normal a w) ∧
    ∀ i ∈ Region.ready md ops L, wpOp P ops Q i (fun a' w' => S (L.setIfInBounds i true) w' ∧ wpL P md ops Q S f (L.setIfInBounds i true) a' w') a w
theorem wpAny_of_L : ∀ (f : Nat) (L : Array Bool) (a : Act) (w : World), wpL P md ops Q S f L a w → wpAny P md ops Q f L a w
  | 0, _, _, _, h => h
  | f + 1, _, _, _, h => ⟨h.1, fun i hi => wpOp_mono (fun a' w' h' => wpAny_of_L f _ a' w' h'.2) (h.2 i hi)⟩

theorem wpL_first {i : Nat} {oi : Oper} {v : Value} (hi : ops[i]? = some oi) (hsel : ∀ (j : Nat) (o : Oper) cs b, ops[j]? = some o → o.op ≠ .select cs b)
    (hQ : ∀ c a w, Q (.panic c) (a.put oi.dst v) w → Q (.panic c) a w) (I : Array Bool → Prop) (hI : ∀ L j, I L → i ∈ Region.ready md ops L → j ∈ Region.ready md ops L → j ≠ i → I (L.setIfInBounds j true))
    (hm : ∀ L w, S (L.setIfInBounds i true) w ↔ S L w) (T : World → Prop) (hT : ∀ L w, I L → S L w → T w) :
    ∀ (fuel : Nat) (listed : Array Bool) (a : Act) (w : World), I listed →
      (∀ j oj, ops[j]? = some oj → j ≠ i → listed.getD j true = false → (∀ e ∈ oj.after, Region.binds md e = true → e.on ≠ i) → oi.apart ops oj = true) →
      i ∈ Region.ready md ops listed → YieldsIf P ops T oi v a → S listed w →
      wpL P md ops Q S fuel (listed.setIfInBounds i true) (a.put oi.dst v) w → wpL P md ops Q S (fuel + 1) listed a w := by
  intro fuel
  induction fuel with
  | zero =>
    intro L a w hIL _ hr hy hS H
    refine ⟨fun h => (by rw [h] at hr; cases hr), fun j hj => ?_⟩
    by_cases hji : j = i
    · subst hji
      exact hy.wpOp hi (hT _ _ hIL hS) ⟨(hm L w).2 hS, H⟩
    · have := ready_mono hj hji
      rw [H.1] at this
      cases this
  | succ fuel ih =>
    intro L a w hIL hfree hr hy hS H
    refine ⟨fun h => (by rw [h] at hr; cases hr), fun j hj => ?_⟩
    by_cases hji : j = i
    · subst hji
      exact hy.wpOp hi (hT _ _ hIL hS) ⟨(hm L w).2 hS, H⟩
    · have h1 := H.2 j (ready_mono hj hji)
      obtain ⟨hjun, oj, hoj, hall⟩ := mem_ready.1 hj
      have hnot : ∀ e ∈ oj.after, Region.binds md e = true → e.on ≠ i := fun e he hb heq => by
        have h1 := hall e he hb
        have h0 := (mem_ready.1 hr).1
        rw [heq] at h1
        rcases Nat.lt_or_ge i L.size with h' | h'
        · simp [h'] at h0 h1; rw [h0] at h1; cases h1
        · simp [Array.getElem?_eq_none h'] at h1
      have h2 := wpOp_putIf hoj (hfree j oj hoj hji hjun hnot) (fun cs b => hsel i oi cs b hi) (fun cs b => hsel j oj cs b hoj) hQ hy h1
      have hfree' : ∀ k ok, ops[k]? = some ok → k ≠ i → (L.setIfInBounds j true).getD k true = false →
          (∀ e ∈ ok.after, Region.binds md e = true → e.on ≠ i) → oi.apart ops ok = true := fun k ok hk hki hun hno => by
        refine hfree k ok hk hki ?_ hno
        by_cases hjk : j = k
        · subst hjk; exact hjun
        · rw [getD_set_ne true hjk] at hun; exact hun
      refine wpOp_mono (fun a' w' h3 => ?_) h2
      have hs : S (L.setIfInBounds j true) w' := by
        have := h3.2.1
        rw [Array.setIfInBounds_comm _ _ (Ne.symm hji)] at this
        exact (hm _ _).1 this
      refine ⟨hs, ih (L.setIfInBounds j true) a' w' (hI L j hIL hr hj hji) hfree' (ready_mono hr (Ne.symm hji)) h3.1 hs ?_⟩
      rw [Array.setIfInBounds_comm _ _ hji]
      exact h3.2.2

/-- Does operation m wait for operation i? -/
def waits (md : Region.Mode) (ops : Array Oper) (m i : Nat) : Bool := match ops[m]? with
  | some o => o.after.any fun e => Region.binds md e && e.on == i
  | none => false
/-- What holds till operation m has come up, and what holds all along. -/
def Till (m : Nat) (C D : World → Prop) (L : Array Bool) (w : World) : Prop := (L.getD m true = false → C w) ∧ D w
theorem wpL_take {i : Nat} {oi : Oper} {v : Value} {fuel : Nat} {listed : Array Bool} {a : Act} {w : World} (hi : ops[i]? = some oi)
    (hs : Region.noSelect ops = true) (hf : Region.free md ops listed i = true) (hr : (Region.ready md ops listed).contains i = true)
    (hw : (waits md ops m i && !(m == i) && !(listed.getD m true)) = true)
    (hQ : ∀ c a w, Q (.panic c) (a.put oi.dst v) w → Q (.panic c) a w) (hy : YieldsIf P ops (fun w => C w ∧ D w) oi v a) (hS : Till m C D listed w)
    (h : wpL P md ops Q (Till m C D) fuel (listed.setIfInBounds i true) (a.put oi.dst v) w) : wpL P md ops Q (Till m C D) (fuel + 1) listed a w := by
  simp only [Bool.and_eq_true, Bool.not_eq_true', beq_eq_false_iff_ne, ne_eq] at hw
  obtain ⟨⟨hw, hmi⟩, hun⟩ := hw
  refine wpL_first hi (Region.noSelect_spec hs) hQ (fun L => L.getD m true = false) ?_ (fun L w => ?_) _ (fun L w hL hs => ⟨hs.1 hL, hs.2⟩) fuel listed a w hun (Region.free_spec hi hf) (by simpa using hr) hy hS h
  · intro L j hL hiL hj hji
    by_cases hjm : j = m
    · subst hjm
      obtain ⟨_, oj, hoj, hall⟩ := mem_ready.1 hj
      unfold waits at hw
      rw [hoj] at hw
      obtain ⟨e, he, hb⟩ := Array.any_eq_true'.1 hw
      simp only [Bool.and_eq_true, beq_iff_eq] at hb
      have h1 := hall e he hb.1
      have h0 := (mem_ready.1 hiL).1
      rw [hb.2] at h1
      rcases Nat.lt_or_ge i L.size with h' | h'
      · simp [h'] at h0 h1; rw [h0] at h1; cases h1
      · simp [Array.getElem?_eq_none h'] at h1
    · rw [getD_set_ne true hjm]; exact hL
  · unfold Till
    rw [getD_set_ne true (fun e => hmi e.symm)]
theorem wpL_take' {i : Nat} {oi : Oper} {v : Value} {fuel : Nat} {listed : Array Bool} {a : Act} {w : World} (hi : ops[i]? = some oi)
    (hs : Region.noSelect ops = true) (hf : Region.free md ops listed i = true) (hr : (Region.ready md ops listed).contains i = true) (hmi : (!(m == i)) = true)
    (hQ : ∀ c a w, Q (.panic c) (a.put oi.dst v) w → Q (.panic c) a w) (hy : YieldsIf P ops D oi v a) (hS : Till m C D listed w)
    (h : wpL P md ops Q (Till m C D) fuel (listed.setIfInBounds i true) (a.put oi.dst v) w) : wpL P md ops Q (Till m C D) (fuel + 1) listed a w := by
  simp only [Bool.not_eq_true', beq_eq_false_iff_ne, ne_eq] at hmi
  refine wpL_first hi (Region.noSelect_spec hs) hQ (fun _ => True) (fun _ _ _ _ _ _ => trivial) (fun L w => ?_) D (fun L w _ hs => hs.2) fuel listed a w trivial (Region.free_spec hi hf) (by simpa using hr) hy hS h
  unfold Till
  rw [getD_set_ne true (fun e => hmi e.symm)]

def AllL (P : Program) (md : Region.Mode) (ops : Array Oper) (Q : Exit → Act → World → Prop) (S : Array Bool → World → Prop) (fuel : Nat) (listed : Array Bool) (a : Act) (w : World) (rs : List Nat) : Prop :=
  ∀ i ∈ rs, wpOp P ops Q i (fun a' w' => S (listed.setIfInBounds i true) w' ∧ wpL P md ops Q S fuel (listed.setIfInBounds i true) a' w') a w
theorem AllL.nil {fuel : Nat} {listed : Array Bool} {a : Act} {w : World} : AllL P md ops Q S fuel listed a w [] := fun _ h => by cases h
theorem AllL.cons {fuel : Nat} {listed : Array Bool} {a : Act} {w : World} {i : Nat} {o : Oper} {rs : List Nat} (ho : ops[i]? = some o)
    (h : ∀ K' : Act → World → Prop, Shut (∀ a w, Till m C D (listed.setIfInBounds i true) w → (Till m C D (listed.setIfInBounds i true) w → wpL P md ops Q (Till m C D) fuel (listed.setIfInBounds i true) a w) → K' a w) → if Region.wanted o (yielded ops a.tmps) = true then Oper.wp P o a w K' Q else K' (a.put o.dst undef) w)
    (hs : AllL P md ops Q (Till m C D) fuel listed a w rs) : AllL P md ops Q (Till m C D) fuel listed a w (i :: rs) := fun j hj => by
  rcases List.mem_cons.1 hj with rfl | hj
  · exact wpOp_step ho (fun K' hK => h K' (fun a w hS hW => hK a w ⟨hS, hW hS⟩))
  · exact hs j hj
theorem wpL_ready {rs : List Nat} {fuel : Nat} {listed : Array Bool} {a : Act} {w : World} (hr : Region.ready md ops listed = rs) (hne : rs ≠ [])
    (h : AllL P md ops Q S fuel listed a w rs) : wpL P md ops Q S (fuel + 1) listed a w := ⟨fun h0 => absurd (hr ▸ h0) hne, hr ▸ h⟩
theorem wpL_done {listed : Array Bool} {a : Act} {w : World} (hr : Region.ready md ops listed = []) (h : Q .normal a w) : ∀ fuel, wpL P md ops Q S fuel listed a w
  | 0 => ⟨hr, h⟩
  | _ + 1 => ⟨fun _ => h, by rw [hr]; simp⟩
/-- The beginning. -/
theorem wp_region_L (m : Nat) (C D : World → Prop) {id : Nat} {a : Act} {w : World} (hm : P.follows .mixedOrders = true) (hC : C w.drew) (hD : D w.drew)
    (h : Till m C D (Array.replicate ops.size false) w.drew → wpL P .any ops Q (Till m C D) ops.size (Array.replicate ops.size false) a w.drew) : (Code.region id ops true).wp P Q a w :=
  wp_region_any hm (wpAny_of_L _ _ _ _ (h ⟨fun _ => hC, hD⟩))
end
end Go.Proofs.YtljmklohgpaopaaGreatDoor

namespace Go.Proofs.YtljmklohgpaopaaGreatDoor
open Go.RowKit

theorem pBody_eq (l : List UInt8) : Pl.pBody l = if (l.length < 8 ∨ (l.drop 8).length < 1) ∨ ¬ (1 ≤ Pl.num ((l.drop 8).take 1) ∧ Pl.num ((l.drop 8).take 1) ≤ 16) then none
    else (Pl.pMany Pl.pOp (Pl.num ((l.drop 8).take 1)) ((l.drop 8).drop 1)).bind fun z => if z.2 = [] then some ⟨Pl.num (l.take 8), z.1⟩ else none := by
  unfold Pl.pBody
  rw [tk_eq]
  by_cases h : l.length < 8
  · rw [if_pos h, if_pos (.inl (.inl h))]; rfl
  · rw [if_neg h]
    simp only [Option.bind_some]
    rw [tk_eq]
    by_cases h1 : (l.drop 8).length < 1
    · rw [if_pos h1, if_pos (.inl (.inr h1))]; rfl
    · rw [if_neg h1]
      simp only [Option.bind_some]
      by_cases h2 : 1 ≤ Pl.num ((l.drop 8).take 1) ∧ Pl.num ((l.drop 8).take 1) ≤ 16
      · rw [if_pos h2, if_neg (by rintro ((e | e) | e) <;> contradiction)]
      · rw [if_neg h2, if_pos (.inr h2)]
theorem check_be {x : List UInt8} {c : Nat} (h4 : x.length = 4) (hc : c < 256 ^ 4) : (Pl.num x = c) ↔ x = Pl.be 4 c := by
  constructor
  · rintro rfl
    have := Pl.be_num x
    rw [h4] at this
    exact this.symm
  · rintro rfl
    exact Pl.num_be 4 c hc
theorem read_end {l body l1 l2 lr : List UInt8} {N : Nat} {chk b1 b2 b3 br ok : Bool} {ops : List Pl.Opn} (h4 : 4 ≤ l.length) (hbody : l.take (l.length - 4) = body)
    (hchk : decide (Pl.num (l.drop (l.length - 4)) = 4294967295 - Pl.checkN body) = chk) (hl1 : body.drop 8 = l1) (hl2 : l1.drop 1 = l2) (hN : Pl.num (l1.take 1) = N)
    (hb1 : (!chk || decide (body.length < 8)) = b1) (hb2 : (b1 || decide (l1.length < 1)) = b2) (hb3 : (b2 || !decide (1 ≤ N ∧ N ≤ 16)) = b3)
    (h1 : br = (b3 || (Pl.pMany Pl.pOp N l2).isNone)) (h2 : br = false → Pl.pMany Pl.pOp N l2 = some (ops, lr)) (hok : (!(br || !decide (lr.length = 0))) = ok) :
    ok = (Pl.readTx l).isSome ∧ (ok = true → Pl.readTx l = some ⟨Pl.num (body.take 8), ops⟩) := by
  have hck : ∀ y, 4294967295 - y < 256 ^ 4 := fun y => by have : (256 : Nat) ^ 4 = 4294967296 := by decide
                                                          omega
  have hd : (4 ≤ l.length ∧ l.drop (l.length - 4) = Pl.be 4 (Pl.checkOf (l.take (l.length - 4)))) ↔ chk = true := by
    rw [hbody, ← hchk, decide_eq_true_iff, check_be (by rw [List.length_drop]; omega) (hck _)]
    exact ⟨fun h => h.2, fun h => ⟨h4, h⟩⟩
  have he : Pl.readTx l = if chk = true then Pl.pBody body else none := by
    unfold Pl.readTx
    by_cases hc : chk = true
    · rw [if_pos (hd.2 hc), if_pos hc, hbody]
    · rw [if_neg (fun h => hc (hd.1 h)), if_neg hc]
  rw [he, pBody_eq, hl1, hl2, hN]
  subst hb1 hb2 hb3 hok
  by_cases c0 : chk = true
  · subst c0
    rw [if_pos rfl]
    by_cases c1 : body.length < 8
    · simp [c1, h1]
    · by_cases c2 : l1.length < 1
      · simp [c1, c2, h1]
      · by_cases c3 : 1 ≤ N ∧ N ≤ 16
        · rw [if_neg (by rintro ((e | e) | e) <;> contradiction)]
          cases hp : Pl.pMany Pl.pOp N l2 with
          | none =>
            rw [hp] at h1
            simp [h1]
          | some z =>
            rw [hp] at h1 h2
            simp [c1, c2, c3] at h1
            have := h2 h1
            injection this with this
            subst this h1
            cases lr with
            | nil => simp
            | cons a r => simp
        · simp [c1, c2, c3, h1]
  · have : chk = false := by simpa using c0
    subst this
    simp [h1]

/-- Groups of cells, each as its element says. -/
def RowsR {α : Type} (s : Nat) (R : List Value → α → Prop) (cs : List Value) (xs : List α) : Prop := cs.length = s * xs.length ∧ ∀ k x, xs[k]? = some x → R ((cs.drop (s * k)).take s) x
theorem RowsR.nil {α : Type} (s : Nat) (R : List Value → α → Prop) : RowsR s R [] [] := ⟨rfl, fun k x h => by cases h⟩
theorem RowsR.snoc {α : Type} {s : Nat} {R : List Value → α → Prop} {cs c : List Value} {xs : List α} {x : α} (h : RowsR s R cs xs) (hc : c.length = s) (hx : R c x) : RowsR s R (cs ++ c) (xs ++ [x]) := by
  refine ⟨by rw [List.length_append, List.length_append, h.1, hc, List.length_singleton, Nat.mul_add, Nat.mul_one], fun k y hk => ?_⟩
  have hl := h.1
  by_cases hk2 : k < xs.length
  · rw [List.getElem?_append_left hk2] at hk
    have hb : s * k + s ≤ cs.length := by rw [hl, ← Nat.mul_succ]; exact Nat.mul_le_mul_left s hk2
    rw [List.drop_append_of_le_length (by omega), List.take_append_of_le_length (by rw [List.length_drop]; omega)]
    exact h.2 k y hk
  · rw [List.getElem?_append_right (by omega)] at hk
    obtain hkk : k - xs.length = 0 := by
      by_cases e : k - xs.length = 0
      · exact e
      · rw [List.getElem?_eq_none (by simp; omega)] at hk; cases hk
    rw [hkk] at hk
    obtain rfl : x = y := by simpa using hk
    obtain rfl : k = xs.length := by omega
    rw [← hl, List.drop_left, ← hc, List.take_length]
    exact hx
theorem RowsR.mono {α : Type} {s : Nat} {R R' : List Value → α → Prop} {cs : List Value} {xs : List α} (h : RowsR s R cs xs) (hR : ∀ c x, x ∈ xs → R c x → R' c x) : RowsR s R' cs xs :=
  ⟨h.1, fun k x hk => hR _ _ (List.mem_of_getElem? hk) (h.2 k x hk)⟩
/-- The cells of one element. -/
theorem RowsR.at_ {α : Type} {s : Nat} {R : List Value → α → Prop} {cs : List Value} {xs : List α} {k : Nat} {x : α} (h : RowsR s R cs xs) (hk : xs[k]? = some x) :
    ∃ c, R c x ∧ c.length = s ∧ ∀ j, j < s → cs[k * s + j]? = c[j]? := by
  refine ⟨_, h.2 k x hk, ?_, fun j hj => ?_⟩
  · obtain ⟨hlt, _⟩ := List.getElem?_eq_some_iff.1 hk
    have hb : s * k + s ≤ cs.length := by rw [h.1, ← Nat.mul_succ]; exact Nat.mul_le_mul_left s hlt
    rw [List.length_take, List.length_drop]
    omega
  · rw [List.getElem?_take_of_lt hj, List.getElem?_drop, Nat.mul_comm]

/-- The cells of an op: what it leads to lies in blocks of P. -/
def OpR (w : World) (P : Nat → Prop) (c : List Value) (o : Pl.Opn) : Prop :=
  ∃ Ac cc Ar cr, c = [.int .i64 (o.kind : Nat), .string (tstr o.table), .slice Ac o.cols.length cc, .slice Ar o.row.length cr] ∧ o.cols.length ≤ cc ∧ o.row.length ≤ cr ∧
    Src w Ac (clcs o.cols) ∧ Src w Ar (vcs o.row) ∧ (∀ p, Ac = some p → P p.block) ∧ ∀ p, Ar = some p → P p.block
theorem OpR.only {F P : Nat → Prop} {w w' : World} {c : List Value} {o : Pl.Opn} (h : OpR w P c o) (ho : Only F w w') (hF : ∀ b, P b → ¬ F b) : OpR w' P c o := by
  obtain ⟨Ac, cc, Ar, cr, h1, h2, h3, h4, h5, h6, h7⟩ := h
  exact ⟨Ac, cc, Ar, cr, h1, h2, h3, ho.src h4 (fun p hp => hF _ (h6 p hp)), ho.src h5 (fun p hp => hF _ (h7 p hp)), h6, h7⟩
theorem OpR.mono {P P' : Nat → Prop} {w : World} {c : List Value} {o : Pl.Opn} (h : OpR w P c o) (hP : ∀ b, P b → P' b) : OpR w P' c o := by
  obtain ⟨Ac, cc, Ar, cr, h1, h2, h3, h4, h5, h6, h7⟩ := h
  exact ⟨Ac, cc, Ar, cr, h1, h2, h3, h4, h5, fun p hp => hP _ (h6 p hp), fun p hp => hP _ (h7 p hp)⟩
theorem OpV.cells {w : World} {B : Nat} {v : Value} {o : Pl.Opn} (h : OpV w B v o) : ∃ c : List Value, v = .agg c.toArray ∧ c.length = 4 ∧ OpR w (fun b => B ≤ b ∧ b < w.heap.size) c o := by
  obtain ⟨va, vb, rfl, h1, h2⟩ := h
  obtain ⟨Ac, cc, rfl, h3, h4, h5⟩ := own_src h1
  obtain ⟨Ar, cr, rfl, h6, h7, h8⟩ := own_src h2
  refine ⟨_, rfl, rfl, Ac, cc, Ar, cr, rfl, h3, h6, h4, h7, fun p hp => ?_, fun p hp => ?_⟩
  · exact h1.lt _ (h5 p hp)
  · exact h2.lt _ (h8 p hp)
end Go.Proofs.YtljmklohgpaopaaGreatDoor
