/- The document's: is an op right? The document's Read: what its walk keeps. The document's Read: the walk. -/
import Derived.Test.YtljmklohgpaopaaGreatDoorMgClashes15
import Derived.Deep.CutBlock
set_option linter.unusedVariables false
set_option linter.unusedSimpArgs false

namespace Go.Proofs.YtljmklohgpaopaaGreatDoor
open Go.RowKit

def OpRight (o : Pl.Opn) : Prop := Pl.NameOk o.table ∧ (1 ≤ o.kind ∧ o.kind ≤ 4) ∧ (o.kind = 1 → Pl.ClsOk o.cols) ∧ (o.kind ≠ 1 → Pl.RowOk o.row)
theorem OpRight.iff {o : Pl.Opn} (h : Shape o) : OpRight o ↔ Pl.OpOk o := by
  obtain ⟨h1, h2, h3⟩ := h
  constructor
  · rintro ⟨a, ⟨b1, b2⟩, c, d⟩
    refine ⟨a, ?_⟩
    by_cases k1 : o.kind = 1
    · exact .inl ⟨k1, c k1, h1 k1⟩
    · by_cases k4 : o.kind = 4
      · obtain ⟨v, hv⟩ := h3 k4
        exact .inr (.inr ⟨k4, h2 k1, v, hv, (d k1).2 v (by rw [hv]; simp)⟩)
      · exact .inr (.inl ⟨by omega, h2 k1, d k1⟩)
  · rintro ⟨a, b⟩
    rcases b with ⟨k, c, d⟩ | ⟨k, c, d⟩ | ⟨k, c, v, d, e⟩
    · exact ⟨a, by omega, fun _ => c, fun e => absurd k e⟩
    · exact ⟨a, by omega, fun e => by omega, fun _ => d⟩
    · refine ⟨a, by omega, fun e => by omega, fun _ => ⟨by rw [d]; simp, ?_⟩⟩
      rw [d]
      intro x hx
      simp at hx
      subst hx
      exact e
def RightP (w : World) (o : Pl.Opn) (e : Ending) (w' : World) : Prop := ∃ b, e = .returned (.bool b) ∧ (b = true ↔ OpRight o) ∧ Below w.heap.size w w'
set_option maxHeartbeats 2000000 in
set_option maxRecDepth 100000 in
theorem opRight_any (P : Nat → Prop) (c : List Value) (o : Pl.Opn) (w : World) (hR : OpR w P c o) (hb : OpB o) :
    Calls Tryz.prog 71 #[.agg c.toArray] w (RightP w o) := by
  obtain ⟨Ac, cc, Ar, cr, rfl, hcc, hcr, hsc, hsr, hpc, hpr⟩ := hR
  obtain ⟨kind, table, cols, row⟩ := o
  obtain ⟨hk, ht, ⟨hcl, hcb⟩, hrl, hrb⟩ := hb
  dsimp only at hk ht hcl hrl hcb hrb hcc hcr hsc hsr ⊢
  obtain ⟨nr, hnr⟩ : ∃ n, row.length = n := ⟨_, rfl⟩
  have HNR := Lib.hid hnr
  rw [hnr] at hrl hcr ⊢
  obtain ⟨nc, hnc⟩ : ∃ n, cols.length = n := ⟨_, rfl⟩
  have HNC := Lib.hid hnc
  obtain ⟨wb, hwb⟩ : ∃ wb, w.alloc (.cells #[.int .i64 (kind : Nat), .string (tstr table), .slice Ac cols.length cc, .slice Ar nr cr] 151) = wb := ⟨_, rfl⟩
  obtain ⟨gb, hgb⟩ : ∃ g, w.heap.size = g := ⟨_, rfl⟩
  have BB : Blk wb gb 151 [.int .i64 (kind : Nat), .string (tstr table), .slice Ac cols.length cc, .slice Ar nr cr] := by rw [← hwb, ← hgb]; exact Blk.new w 151 _
  have hbb : Below w.heap.size w wb := by rw [← hwb]; exact below_alloc _ _
  have HBB := Lib.hid BB
  have HBW := Lib.hid hbb
  have hIN := refIsName_any (tstr table) wb (by rw [tstr_size]; omega)
  rw [show (tstr table).data.toList = table by simp [tstr]] at hIN
  have HIN := Lib.hid hIN
  have HCC := Lib.hid (colsRight_any Ac cc cols wb (hsc.below hbb) hcb hcl)
  have HSR := Lib.hid (hsr.below hbb)
  have HRB := Lib.hid hrb
  rw [hnc] at HCC hwb
  obtain ⟨d0, d1, d2, d3, k0, k1, k2, k3⟩ := facts4 BB
  rw [hnc] at d2
  have hnr2 : ((nr : Nat) : Int) < 256 := by omega
  rw [hnc]
  clear BB hbb hsc hsr hpc hpr hcb hrb hnr hnc hIN
  by_cases hok : Pl.NameOk table
  · rw [decide_eq_true hok] at HIN
    by_cases h0 : kind < 1
    · have q1 : ((kind : Nat) : Int) < 1 := by omega
      have e1 := decide_eq_true q1
      go_enter Tryz.func71, Tryz.ntmps71
      go_wp2_with fail
      refine HIN.out.mono ?_
      rintro e w1 ⟨rfl, rfl⟩
      go_wp2_with fail
      go_ret
      exact ⟨false, rfl, ⟨fun e => (by cases e), fun ⟨_, h, _⟩ => by dsimp only at h; omega⟩, HBW.out⟩
    · have q1 : ¬ ((kind : Nat) : Int) < 1 := by omega
      have e1 := decide_eq_false q1
      by_cases h4 : 4 < kind
      · have q2 : (4 : Int) < ((kind : Nat) : Int) := by omega
        have e2 := decide_eq_true q2
        go_enter Tryz.func71, Tryz.ntmps71
        go_wp2_with fail
        refine HIN.out.mono ?_
        rintro e w1 ⟨rfl, rfl⟩
        go_wp2_with fail
        go_ret
        exact ⟨false, rfl, ⟨fun e => (by cases e), fun ⟨_, h, _⟩ => by dsimp only at h; omega⟩, HBW.out⟩
      · have q2 : ¬ (4 : Int) < ((kind : Nat) : Int) := by omega
        have e2 := decide_eq_false q2
        by_cases h1 : kind = 1
        · have q3 : (((kind : Nat) : Int) == 1) = true := by rw [h1]; rfl
          have HK := Lib.hid h1
          clear h1
          go_enter Tryz.func71, Tryz.ntmps71
          go_wp2_with fail
          refine HIN.out.mono ?_
          rintro e w1 ⟨rfl, rfl⟩
          go_wp2_with fail
          refine HCC.out.mono ?_
          rintro e w2 ⟨rfl, hb2⟩
          have HB2 := Lib.hid hb2
          clear hb2
          go_wp2_with fail
          go_ret
          refine ⟨_, rfl, ?_, HBW.out.trans (HB2.out.mono HBW.out.size)⟩
          rw [decide_eq_true_iff]
          have := HK.out
          exact ⟨fun h => ⟨hok, by dsimp only; omega, fun _ => h, fun e => absurd this e⟩, fun h => h.2.2.1 this⟩
        · have q3 : (((kind : Nat) : Int) == 1) = false := beq_eq_false_iff_ne.2 (by omega)
          have HK := Lib.hid h1
          clear h1
          go_enter Tryz.func71, Tryz.ntmps71
          go_wp2_with fail
          refine HIN.out.mono ?_
          rintro e w1 ⟨rfl, rfl⟩
          go_wp2_with fail
          go_loopw [4] (fun i wr => ∃ k : Nat, k ≤ nr ∧ i = .int .i64 (k : Int) ∧ Hid (Below wb.heap.size wb wr) ∧ Hid (∀ x ∈ row.take k, Pl.VlOk x)) (fun i _ => nr - (intOf i).toNat)
          case atStart => exact ⟨0, Nat.zero_le _, rfl, Below.refl _ _, by intro x hx; rw [List.take_zero] at hx; cases hx⟩
          case round =>
            obtain ⟨k, hk, rfl, HBX, HALL⟩ := hrel
            have BX := HBB.out.below HBX.out HBB.out.lt
            clear d0 d1 d2 d3 k0 k1 k2 k3
            obtain ⟨d0, d1, d2, d3, k0, k1, k2, k3⟩ := facts4 BX
            clear BX
            by_cases hkn : k < nr
            · have r1 : (k : Int) < (nr : Int) := by omega
              have r2 : (0 : Int) ≤ (k : Int) := by omega
              obtain ⟨x, hx⟩ : ∃ x, row[k]? = some x := ⟨_, List.getElem?_eq_getElem (by rw [HNR.out]; exact hkn)⟩
              have hxb := HRB.out x (List.mem_of_getElem? hx)
              have at_ := flat_at (f := vc) (s := 3) (fun _ => rfl) row k x hx
              have hsr := HSR.out.below HBX.out
              obtain ⟨b, off, rfl, g0⟩ := hsr.at_ _ _ ((at_ 0 (by omega)).trans rfl)
              have g1 := hsr.cell _ _ ((at_ 1 (by omega)).trans rfl)
              have g2 := hsr.cell _ _ ((at_ 2 (by omega)).trans rfl)
              rw [← Nat.add_assoc] at g1 g2
              rw [Nat.add_zero] at g0
              have HV := valRight_any x wr hxb
              obtain ⟨ty, vn, s⟩ := x
              unfold vlV at HV
              dsimp only at HV g0 g1 g2
              have HV := Lib.hid HV
              have HX := Lib.hid hx
              clear hx hxb at_ hsr
              by_cases hvo : Pl.VlOk ⟨ty, vn, s⟩
              · rw [decide_eq_true hvo] at HV
                go_wp2_with fail
                refine HV.out.mono ?_
                rintro e w5 ⟨rfl, hb5⟩
                have HB5 := Lib.hid (HBX.out.trans (hb5.mono HBX.out.size))
                clear hb5
                go_wp2_with fail
                refine ⟨⟨k + 1, by omega, by go_num, HB5.out, fun y hy => ?_⟩, by simp [intOf]; omega⟩
                rw [List.take_add_one, HX.out] at hy
                rcases List.mem_append.1 hy with hy | hy
                · exact HALL.out y hy
                · simp at hy; subst hy; exact hvo
              · rw [decide_eq_false hvo] at HV
                go_wp2_with fail
                refine HV.out.mono ?_
                rintro e w5 ⟨rfl, hb5⟩
                have HB5 := Lib.hid (HBX.out.trans (hb5.mono HBX.out.size))
                clear hb5
                go_wp2_with fail
                go_ret
                exact ⟨false, rfl, ⟨fun e => (by cases e), fun h => absurd ((h.2.2.2 HK.out).2 _ (List.mem_of_getElem? HX.out)) hvo⟩, HBW.out.trans (HB5.out.mono HBW.out.size)⟩
            · obtain rfl : k = nr := by omega
              have r1 : ¬ (k : Int) < (k : Int) := by omega
              have hall := HALL.out
              rw [List.take_of_length_le (by rw [HNR.out]; exact Nat.le_refl _)] at hall
              have HALL2 := Lib.hid hall
              clear hall
              by_cases m1 : 1 ≤ k
              · have s1 : (1 : Int) ≤ (k : Int) := by omega
                have t1 := decide_eq_true s1
                by_cases m4 : k ≤ 4
                · have s2 : (k : Int) ≤ 4 := by omega
                  have t2 := decide_eq_true s2
                  go_wp2_with fail
                  go_ret
                  refine ⟨true, rfl, ⟨fun _ => ⟨hok, by dsimp only; omega, fun e => absurd e HK.out, fun _ => ⟨by dsimp only; rw [HNR.out]; exact ⟨m1, m4⟩, HALL2.out⟩⟩, fun _ => rfl⟩, HBW.out.trans (HBX.out.mono HBW.out.size)⟩
                · have s2 : ¬ (k : Int) ≤ 4 := by omega
                  have t2 := decide_eq_false s2
                  go_wp2_with fail
                  go_ret
                  exact ⟨false, rfl, ⟨fun e => (by cases e), fun h => absurd (h.2.2.2 HK.out).1.2 (by dsimp only; rw [HNR.out]; exact m4)⟩, HBW.out.trans (HBX.out.mono HBW.out.size)⟩
              · have s1 : ¬ (1 : Int) ≤ (k : Int) := by omega
                have t1 := decide_eq_false s1
                go_wp2_with fail
                go_ret
                exact ⟨false, rfl, ⟨fun e => (by cases e), fun h => absurd (h.2.2.2 HK.out).1.1 (by dsimp only; rw [HNR.out]; exact m1)⟩, HBW.out.trans (HBX.out.mono HBW.out.size)⟩
  · rw [decide_eq_false hok] at HIN
    go_enter Tryz.func71, Tryz.ntmps71
    go_wp2_with fail
    refine HIN.out.mono ?_
    rintro e w1 ⟨rfl, rfl⟩
    go_wp2_with fail
    go_ret
    exact ⟨false, rfl, ⟨fun e => (by cases e), fun h => absurd h.1 hok⟩, HBW.out⟩
end Go.Proofs.YtljmklohgpaopaaGreatDoor

namespace Go.Proofs.YtljmklohgpaopaaGreatDoor
open Go.RowKit

theorem results_txR {fn : Func} {t s : Tmp} {tmps : Array Value} {w : World} {g : Nat} {a b c : Value} (h : fn.results = #[.cell t 90, .tmp s]) (ht : tmps.getD t undef = .pointer (some ⟨g, 0, none⟩)) (hs : tmps.getD s undef = c) (hB : Blk w g 90 [a, b]) :
    (results fn tmps).run Tryz.prog w = .ok (.tuple #[.agg #[a, b], c]) w := by
  have c0 := hB.cell 0
  have c1 := hB.cell 1
  simp only [List.getElem?_cons_succ, List.getElem?_cons_zero] at c0 c1
  simp only [Array.getD_eq_getD_getElem?] at ht hs
  simp [results, h, ht, hs, go_sem, c0, c1, asAddr]
/-- What was read ahead of the ops. -/
def HeadR (s : List UInt8) (time n : Nat) (l2 : List UInt8) (bad2 : Bool) : Prop :=
  ∀ t, Pl.readTx s = some t → Pl.TxOk t ∧ Pl.payload t = s ∧ time = t.time ∧ n = t.ops.length ∧ l2 = t.ops.flatMap Pl.encOp ++ Pl.be 4 (Pl.checkOf (Pl.encBody t)) ∧ bad2 = false
theorem HeadR.of {s l1 l2 : List UInt8} {time n : Nat} {bad1 bad2 : Bool} (h1 : ∀ y r, y < 256 ^ 8 → s = Pl.be 8 y ++ r → time = y ∧ l1 = r ∧ bad1 = false) (h2 : ∀ y r, y < 256 ^ 1 → l1 = Pl.be 1 y ++ r → n = y ∧ l2 = r ∧ bad2 = bad1) : HeadR s time n l2 bad2 := by
  intro t ht
  obtain ⟨hok, hp⟩ := (Pl.readTx_iff s t).1 ht
  have hpp := hp
  unfold Pl.payload at hp
  rw [show Pl.encBody t = Pl.be 8 t.time ++ (UInt8.ofNat t.ops.length :: t.ops.flatMap Pl.encOp) from rfl, List.append_assoc] at hp
  obtain ⟨e1, e2, e3⟩ := h1 t.time _ hok.1 hp.symm
  obtain ⟨e4, e5, e6⟩ := h2 t.ops.length _ (by have := hok.2.1.2; omega) (by rw [be_one]; exact e2)
  exact ⟨hok, hpp, e1, e4, e5, e6.trans e3⟩
section
variable {s l2 lk : List UInt8} {time n : Nat} {bad2 bk : Bool} {ops : List Pl.Opn}
theorem HeadR.few (h : HeadR s time n l2 bad2) (hn : ¬ (1 ≤ n ∧ n ≤ 16)) : Pl.readTx s = none := by
  cases ht : Pl.readTx s with
  | none => rfl
  | some t =>
    obtain ⟨h1, _, _, h2, _⟩ := h t ht
    rw [h2] at hn
    exact absurd h1.2.1 hn
theorem HeadR.bad (h : HeadR s time n l2 bad2) (hM : MAt Pl.OpOk Pl.encOp n l2 bad2 ops lk true) : Pl.readTx s = none := by
  cases ht : Pl.readTx s with
  | none => rfl
  | some t =>
    obtain ⟨h1, _, _, h2, h3, h4⟩ := h t ht
    obtain ⟨_, _, h5⟩ := hM t.ops _ h4 h2.symm h1.2.2 h3
    cases h5
theorem HeadR.wrong {o : Pl.Opn} (h : HeadR s time n l2 bad2) (hM : MAt Pl.OpOk Pl.encOp n l2 bad2 (ops ++ [o]) lk bk) (ho : ¬ Pl.OpOk o) : Pl.readTx s = none := by
  cases ht : Pl.readTx s with
  | none => rfl
  | some t =>
    obtain ⟨h1, _, _, h2, h3, h4⟩ := h t ht
    obtain ⟨h5, _, _⟩ := hM t.ops _ h4 h2.symm h1.2.2 h3
    refine absurd (h1.2.2 o ?_) ho
    have : o ∈ ops ++ [o] := by simp
    rw [h5] at this
    exact List.mem_of_mem_take this
theorem HeadR.fin (h : HeadR s time n l2 bad2) (hM : MAt Pl.OpOk Pl.encOp n l2 bad2 ops lk bk) (hn : 1 ≤ n ∧ n ≤ 16) (hl : ops.length = n) (hok : ∀ o ∈ ops, Pl.OpOk o) (hti : time < 256 ^ 8) :
    ((Pl.readTx s).isSome = true ↔ Pl.payload ⟨time, ops⟩ = s) ∧ ∀ t, Pl.readTx s = some t → t = ⟨time, ops⟩ := by
  have h9 : ∀ t, Pl.readTx s = some t → t = ⟨time, ops⟩ := by
    intro t ht
    obtain ⟨h1, _, h5, h2, h3, h4⟩ := h t ht
    obtain ⟨h6, _, _⟩ := hM.done (.inl hl) t.ops _ h4 h2.symm h1.2.2 h3
    obtain ⟨tt, tos⟩ := t
    dsimp only at h5 h6
    rw [h5, h6]
  refine ⟨⟨fun hs => ?_, fun hp => ?_⟩, h9⟩
  · obtain ⟨t, ht⟩ := Option.isSome_iff_exists.1 hs
    rw [← h9 t ht]
    exact (h t ht).2.1
  · rw [(Pl.readTx_iff s ⟨time, ops⟩).2 ⟨⟨hti, by dsimp only; omega, hok⟩, hp⟩]
    rfl
end
/-- The two blocks of a transaction under way. -/
structure TAt (w : World) (b2 g b5 : Nat) (T : Int) (va : Value) (W : World) : Prop where
  low : w.heap.size ≤ b2 ∧ b2 < g ∧ g < b5
  r2 : Blk W b2 90 [.int .i64 0, .slice none 0 0]
  r5 : Blk W b5 90 [.int .i64 T, va]
  below : Below w.heap.size w W
section
variable {w W W' : World} {b2 g b5 : Nat} {T : Int} {va : Value}
theorem TAt.read (h : TAt w b2 g b5 T va W) (ho : Only (· = g) W W') : TAt w b2 g b5 T va W' :=
  ⟨h.low, ho.blk h.r2 (by have := h.low; omega), ho.blk h.r5 (by have := h.low; omega), h.below.trans (ho.toBelow h.below.size (fun k hk e => by have := h.low; omega))⟩
theorem TAt.mono (h : TAt w b2 g b5 T va W) (hb : Below W.heap.size W W') : TAt w b2 g b5 T va W' :=
  ⟨h.low, h.r2.below hb h.r2.lt, h.r5.below hb h.r5.lt, h.below.trans (hb.mono h.below.size)⟩
theorem TAt.moves (h : TAt w b2 g b5 T va W) {v v' : Value} (hm : Mv W W' v v') (hv : ∀ k, v.ownBlock = some k → b5 < k) : TAt w b2 g b5 T va W' := by
  have ho := hm.only
  refine ⟨h.low, ho.blk h.r2 (fun e => ?_), ho.blk h.r5 (fun e => ?_), h.below.trans (ho.toBelow h.below.size (fun k hk e => ?_))⟩
  · have := hv _ e; have := h.low; omega
  · have := hv _ e; have := h.low; omega
  · have := hv _ e; have := h.low; omega
theorem TAt.set1 (h : TAt w b2 g b5 T va W) (v : Value) : TAt w b2 g b5 T v (W.setCell ⟨b5, 1, none⟩ v) :=
  ⟨h.low, h.r2.far (p := ⟨b5, 1, none⟩) (by have := h.low; dsimp only; omega) v, h.r5.set_ 1 v, h.below.setCell (p := ⟨b5, 1, none⟩) (by have := h.low; dsimp only; omega) v⟩
/-- Nothing is read. -/
theorem TAt.nought {s : List UInt8} (h : TAt w b2 g b5 T va W) (hn : Pl.readTx s = none) : ReadPost w s (.returned (.tuple #[.agg #[.int .i64 0, .slice none 0 0], .bool false])) ((W.setCell ⟨b2, 0, none⟩ (.int .i64 0)).setCell ⟨b2, 1, none⟩ (.slice none 0 0)) ∧
    Blk ((W.setCell ⟨b2, 0, none⟩ (.int .i64 0)).setCell ⟨b2, 1, none⟩ (.slice none 0 0)) b2 90 [.int .i64 0, .slice none 0 0] := by
  refine ⟨⟨0, none, 0, 0, false, rfl, (h.below.setCell (p := ⟨b2, 0, none⟩) (by have := h.low; dsimp only; omega) _).setCell (p := ⟨b2, 1, none⟩) (by have := h.low; dsimp only; omega) _, by rw [hn]; rfl, fun t ht => by rw [hn] at ht; cases ht⟩, (h.r2.set_ 0 _).set_ 1 _⟩
end
abbrev OpsL := OL 151 4 OpR
theorem Tryz.infoOpR : (Tryz.prog.info? 151).map (fun i => (i.zero, i.size, i.bytes)) = some (some (.agg #[.int .i64 0, .string ⟨#[]⟩, .slice none 0 0, .slice none 0 0]), 4, 72) := by kernel_rfl
end Go.Proofs.YtljmklohgpaopaaGreatDoor

namespace Go.Proofs.YtljmklohgpaopaaGreatDoor
open Go.RowKit

set_option maxHeartbeats 4000000 in
set_option maxRecDepth 100000 in
theorem readR_any (s : List UInt8) (w : World) (hs : s.length ≤ 140737488351232) :
    Calls Tryz.prog 37 #[.string (tstr s)] w (ReadPost w s) := by
  obtain ⟨i0, hi0, hz0, hz1, hz2⟩ := info_parts Tryz.infoOpR
  have HI := Lib.hid (And.intro hi0 (And.intro hz0 (And.intro hz1 hz2)))
  clear hi0 hz0 hz1 hz2
  obtain ⟨b2, hb2⟩ : ∃ b2, w.heap.size = b2 := ⟨_, rfl⟩
  obtain ⟨w0, hw0⟩ : ∃ w0, w.alloc (.cells #[.int .i64 0, .slice none 0 0] 90) = w0 := ⟨_, rfl⟩
  have hb0 : Below w.heap.size w w0 := by rw [← hw0]; exact below_alloc _ _
  have B0 : Blk w0 b2 90 [.int .i64 0, .slice none 0 0] := by rw [← hw0, ← hb2]; exact Blk.new w 90 _
  obtain ⟨g, hg⟩ : ∃ g, w0.heap.size = g := ⟨_, rfl⟩
  obtain ⟨w1, hw1⟩ : ∃ w1, w0.alloc (.cells #[.string (tstr s), .bool false] 147) = w1 := ⟨_, rfl⟩
  have hb1 : Below w0.heap.size w0 w1 := by rw [← hw1]; exact below_alloc _ _
  have hC1 : Cur w1 g s false := ⟨hs, by rw [← hw1, ← hg]; exact Blk.new w0 147 _⟩
  have hgb : b2 < g := by rw [← hg]; exact B0.lt
  have B1 := B0.below hb1 B0.lt
  have hbw1 : Below w.heap.size w w1 := hb0.trans (hb1.mono hb0.size)
  have HN8 := Lib.hid (numR_any g 8 8 rfl s false w1 hC1 (by omega))
  have HB1 := Lib.hid B1
  have HW1 := Lib.hid hbw1
  have HZ := Lib.hid hs
  obtain ⟨st, hst⟩ : ∃ st, tstr s = st := ⟨_, rfl⟩
  rw [hst] at hw1 ⊢
  have HST := Lib.hid hst
  clear hb0 B0 hb1 B1 hbw1 hC1 hst hs
  go_enter Tryz.func37, Tryz.ntmps37
  go_wp2_with fail
  refine HN8.out.mono ?_
  rintro e w2 ⟨time, rfl, hti, l1, bad1, hc2, ho2, h1⟩
  have HTI := Lib.hid hti
  have H1 := Lib.hid h1
  have hbw2 := HW1.out.trans (ho2.toBelow HW1.out.size (fun k hk e => by omega))
  have B2 := ho2.blk HB1.out (show ¬ b2 = g by omega)
  obtain ⟨T, hT⟩ : ∃ T, sig time = T := ⟨_, rfl⟩
  rw [hT]
  have HT := Lib.hid hT
  have hlt2 := hc2.lt
  obtain ⟨b5, hb5⟩ : ∃ b5, w2.heap.size = b5 := ⟨_, rfl⟩
  obtain ⟨wz, hwz⟩ : ∃ wz, w2.alloc (.cells #[.int .i64 0, .slice none 0 0] 90) = wz := ⟨_, rfl⟩
  have hbz : Below w2.heap.size w2 wz := by rw [← hwz]; exact below_alloc _ _
  have BZ : Blk wz b5 90 [.int .i64 0, .slice none 0 0] := by rw [← hwz, ← hb5]; exact Blk.new w2 90 _
  obtain ⟨z0, z1, e0, e1⟩ := facts2 BZ
  obtain ⟨w3, hw3⟩ : ∃ w3, (wz.setCell ⟨b5, 0, none⟩ (.int .i64 T)).setCell ⟨b5, 1, none⟩ (.slice none 0 0) = w3 := ⟨_, rfl⟩
  have hb3 : Below w2.heap.size w2 w3 := by
    rw [← hw3]
    have h1 : w2.heap.size ≤ b5 := by omega
    exact (hbz.setCell (p := ⟨b5, 0, none⟩) h1 _).setCell (p := ⟨b5, 1, none⟩) h1 _
  have HA3 : Hid (TAt w b2 g b5 T (.slice none 0 0) w3) := ⟨by omega, B2.below hb3 B2.lt, by rw [← hw3]; exact (BZ.set_ 0 _).set_ 1 _, hbw2.trans (hb3.mono hbw2.size)⟩
  have HN1 := Lib.hid (numR_any g 1 1 rfl l1 bad1 w3 (hc2.below hb3) (by omega))
  clear hti h1 hc2 ho2 hbw2 B2 hT hbz BZ hb3 HB1 HW1 HN8
  go_wp2_with fail
  refine HN1.out.mono ?_
  rintro e w4 ⟨n, rfl, hn, l2, bad2, hc4, ho4, h2⟩
  have hn : n < 256 := by simpa using hn
  rw [sig_small hn]
  have HH := Lib.hid (HeadR.of H1.out h2)
  have HA4 := Lib.hid (HA3.out.read ho4)
  have HC4 := Lib.hid hc4
  obtain ⟨d0, d1, k0, k1⟩ := facts2 HA4.out.r2
  clear hc4 ho4 h2 z0 z1 e0 e1 HA3 H1
  by_cases hn1 : n < 1
  · have q1 : (n : Int) < 1 := by omega
    have s1 := decide_eq_true q1
    obtain ⟨hno, hnb⟩ := HA4.out.nought (HH.out.few (by omega))
    have HNO := Lib.hid hno
    have HNB := Lib.hid hnb
    clear hno hnb
    go_wp2_with fail
    exact bodyPost_ret (results_txR rfl rfl rfl HNB.out) rfl HNO.out
  · have q1 : ¬ (n : Int) < 1 := by omega
    have s1 := decide_eq_false q1
    by_cases hn16 : 16 < n
    · have q2 : (16 : Int) < (n : Int) := by omega
      have s2 := decide_eq_true q2
      obtain ⟨hno, hnb⟩ := HA4.out.nought (HH.out.few (by omega))
      have HNO := Lib.hid hno
      have HNB := Lib.hid hnb
      clear hno hnb
      go_wp2_with fail
      exact bodyPost_ret (results_txR rfl rfl rfl HNB.out) rfl HNO.out
    · have q2 : ¬ (16 : Int) < (n : Int) := by omega
      have s2 := decide_eq_false q2
      clear d0 d1 k0 k1
      go_upto_region 6 with fail
      go_wp2_with fail
      go_loopw [7] (fun i wr => ∃ (k : Nat) (ops : List Pl.Opn) (va : Value) (lk : List UInt8) (bk : Bool), k ≤ n ∧ i = .int .i64 (k : Int) ∧ Hid (ops.length = k) ∧ Hid (TAt w b2 g b5 T va wr) ∧ Hid (OpsL wr (b5 + 1) va ops) ∧ Hid (Cur wr g lk bk) ∧ Hid (MAt Pl.OpOk Pl.encOp n l2 bad2 ops lk bk) ∧ Hid (∀ o ∈ ops, Pl.OpOk o)) (fun i _ => n - (intOf i).toNat)
      case atStart => exact ⟨0, [], _, l2, bad2, Nat.zero_le _, rfl, rfl, HA4.out, OL.nil _ _, HC4.out, MAt.start _ _ _ _ _, by intro o ho; cases ho⟩
      case round =>
        obtain ⟨k, ops, va, lk, bk, hk, rfl, HL, HA, HOL, HC, HM, HOK⟩ := hrel
        have y1 := HC.out.2.cell 1
        simp only [List.getElem?_cons_succ, List.getElem?_cons_zero] at y1
        obtain ⟨d0, d1, k0, k1⟩ := facts2 HA.out.r2
        by_cases hkn : k < n
        · have q3 : (k : Int) < (n : Int) := by omega
          cases bk with
          | true =>
            obtain ⟨hno, hnb⟩ := HA.out.nought (HH.out.bad HM.out)
            have HNO := Lib.hid hno
            have HNB := Lib.hid hnb
            clear hno hnb
            go_wp2_with fail
            exact bodyPost_ret (results_txR rfl rfl rfl HNB.out) rfl HNO.out
          | false =>
            have HV := Lib.hid (opR_any g lk false wr HC.out)
            go_wp2_with fail
            refine HV.out.mono ?_
            rintro e w5 ⟨v, o, rfl, hov, hob, hsh, lk2, bk2, hc5, ho5, h5⟩
            obtain ⟨c, rfl, hcl, hor⟩ := hov.cells
            obtain ⟨Ac, cc, Aw, cw, rfl, hh⟩ := hor
            have hor : OpR w5 (fun b => wr.heap.size ≤ b ∧ b < w5.heap.size) _ o := ⟨Ac, cc, Aw, cw, rfl, hh⟩
            have HST := Lib.hid (HM.out.step (x := o) (by have := HL.out; omega) (fun y r hy hl => h5 y r ⟨rfl, hy⟩ hl))
            have ha5 := HA.out.read ho5
            have hol5 := HOL.out.only OpR.fr ho5 (fun x hx _ e => by have := HA.out.low; omega)
            have HSH := Lib.hid hsh
            have hwr : wr.heap.size ≤ w5.heap.size := ho5.size
            obtain ⟨w6, hw6⟩ : ∃ W, w5.alloc (.cells #[.int .i64 (o.kind : Nat), .string (tstr o.table), .slice Ac o.cols.length cc, .slice Aw o.row.length cw] 151) = W := ⟨_, rfl⟩
            have hb6 : Below w5.heap.size w5 w6 := by rw [← hw6]; exact below_alloc _ _
            have BO : Blk w6 w5.heap.size 151 [.int .i64 (o.kind : Nat), .string (tstr o.table), .slice Ac o.cols.length cc, .slice Aw o.row.length cw] := by rw [← hw6]; exact Blk.new w5 151 _
            have hor6 := hor.only (Only.of_below hb6 (fun _ => False)) (fun _ _ h => h)
            have HRT := Lib.hid (opRight_any _ _ o w6 hor6 hob)
            have HOR6 := Lib.hid hor6
            have HA6 := Lib.hid (ha5.mono hb6)
            have HOL6 := Lib.hid (hol5.below OpR.fr hb6)
            have HC6 := Lib.hid (hc5.below hb6)
            have HBO := Lib.hid BO
            obtain ⟨n0, n1, n2, n3, m0, m1, m2, m3⟩ := facts4 BO
            clear hov hob hsh hc5 ho5 h5 hh hor ha5 hol5 hb6 hor6 BO HV y1 d0 d1 k0 k1
            go_wp2_with fail
            refine HRT.out.mono ?_
            rintro e w7 ⟨b, rfl, hbi, hb7⟩
            have hoi := hbi.trans (OpRight.iff HSH.out)
            have HA7 := Lib.hid (HA6.out.mono hb7)
            cases b with
            | false =>
              have hnot : ¬ Pl.OpOk o := fun h => Bool.noConfusion (hoi.2 h)
              obtain ⟨hno, hnb⟩ := HA7.out.nought (HH.out.wrong HST.out hnot)
              have HNO := Lib.hid hno
              have HNB := Lib.hid hnb
              obtain ⟨d0, d1, k0, k1⟩ := facts2 HA7.out.r2
              clear hno hnb hbi hb7 hoi hnot
              go_wp2_with fail
              exact bodyPost_ret (results_txR rfl rfl rfl HNB.out) rfl HNO.out
            | true =>
              have HOO : Hid (Pl.OpOk o) := hoi.1 rfl
              have hol7 := HOL6.out.below OpR.fr hb7
              have hc7 := HC6.out.below hb7
              have bo7 := HBO.out.below hb7 HBO.out.lt
              have hor7 := HOR6.out.only (Only.of_below hb7 (fun _ => False)) (fun _ _ h => h)
              have h67 : w6.heap.size ≤ w7.heap.size := hb7.size
              clear n0 n1 n2 n3 m0 m1 m2 m3
              obtain ⟨n0, n1, n2, n3, m0, m1, m2, m3⟩ := facts4 bo7
              obtain ⟨e0, e1, f0, f1⟩ := facts2 HA7.out.r5
              obtain ⟨w8, hw8⟩ : ∃ W, w7.alloc (.cells #[.int .i64 (o.kind : Nat), .string (tstr o.table), .slice Ac o.cols.length cc, .slice Aw o.row.length cw] 151) = W := ⟨_, rfl⟩
              have hb8 : Below w7.heap.size w7 w8 := by rw [← hw8]; exact below_alloc _ _
              have S8 : Hid (Src w8 (some ⟨w7.heap.size, 0, none⟩) [.int .i64 (o.kind : Nat), .string (tstr o.table), .slice Ac o.cols.length cc, .slice Aw o.row.length cw]) := Src.of_blk (t := 151) (by rw [← hw8]; exact Blk.new w7 151 _)
              have HA8 := Lib.hid (HA7.out.mono hb8)
              have HOL8 := Lib.hid (hol7.below OpR.fr hb8)
              have HC8 := Lib.hid (hc7.below hb8)
              have h78 : w7.heap.size ≤ w8.heap.size := hb8.size
              have h56 : w5.heap.size < w6.heap.size := HBO.out.lt
              have hor8 := hor7.only (Only.of_below hb8 (fun _ => False)) (fun _ _ h => h)
              have hb5l := HA.out.r5.lt
              have R8 : Hid (OpR w8 (fun b => b5 + 1 ≤ b ∧ b < w8.heap.size ∧ va.ownBlock ≠ some b) [.int .i64 (o.kind : Nat), .string (tstr o.table), .slice Ac o.cols.length cc, .slice Aw o.row.length cw] o) :=
                hor8.mono (fun b hb => ⟨by omega, by omega, fun e => by have := (HOL.out.lt b e).2; omega⟩)
              have HLN : Hid (ops.length ≤ 4294967296) := by rw [Hid, HL.out]; omega
              have hbase : b5 + 1 ≤ w8.heap.size := by omega
              clear hbi hb7 hoi hol7 hc7 bo7 hor7 hb8 hor8
              go_wp2_with (first
                | (at_builtin
                   refine wpList_ol (v := va) OpR.fr rfl (.tmp 45) (.tmp 47) 88 rfl Tryz.underlying88 HI.out.1 HI.out.2.1 HI.out.2.2.1 HI.out.2.2.2 rfl (by decide) rfl HOL8.out (some ⟨w7.heap.size, 0, none⟩) 1 _ o rfl rfl S8.out (by simp; exact ⟨rfl, rfl, rfl, rfl⟩) R8.out HLN.out (by decide) hbase ?_
                   intro v9 w9 o9 m9
                   obtain ⟨A9, n9, c9, rfl⟩ : ∃ A n c, v9 = .slice A n c := by obtain ⟨A, cap, _, h, _⟩ := o9.src OpR.fr; exact ⟨_, _, _, h⟩
                   have HO9 := Lib.hid o9
                   have hm9 := m9.only
                   have HA9 := Lib.hid (HA8.out.moves m9 (fun k hk => by have := (HOL8.out.lt k hk).1; omega))
                   have HC9 := Lib.hid (HC8.out.only hm9 (fun e => by have := (HOL8.out.lt g e).1; have := HA8.out.low; omega))
                   obtain ⟨z0, z1, x0, x1⟩ := facts2 HA9.out.r5
                   clear o9 m9 hm9)
                | fail)
              refine ⟨⟨k + 1, ops ++ [o], _, lk2, bk2, by omega, by go_num, ?_, HA9.out.set1 _, ?_, ?_, HST.out, ?_⟩, by simp [intOf]; omega⟩
              · show _ = _
                rw [List.length_append, HL.out]; rfl
              · exact HO9.out.only OpR.fr ((Only.refl (· = b5) w9).setCell (p := ⟨b5, 1, none⟩) (.inl rfl) _) (fun x hx _ e => by omega)
              · exact ⟨HC9.out.1, HC9.out.2.far (p := ⟨b5, 1, none⟩) (by have := HA9.out.low; dsimp only; omega) _⟩
              · intro y hy
                rcases List.mem_append.1 hy with hy | hy
                · exact HOK.out y hy
                · simp at hy; subst hy; exact HOO.out
        · have q3 : ¬ (k : Int) < (n : Int) := by omega
          cases bk with
          | true =>
            obtain ⟨hno, hnb⟩ := HA.out.nought (HH.out.bad HM.out)
            have HNO := Lib.hid hno
            have HNB := Lib.hid hnb
            clear hno hnb
            go_wp2_with fail
            exact bodyPost_ret (results_txR rfl rfl rfl HNB.out) rfl HNO.out
          | false =>
            obtain ⟨A, cap, cs, rfl, hcap, hsrc, hrows, hAlt⟩ := HOL.out.src OpR.fr
            have hd : Only (fun _ => False) wr wr.drew := (Only.refl _ wr).drew
            obtain ⟨hiff, huniq⟩ := HH.out.fin HM.out (by omega) (by have := HL.out; omega) HOK.out HTI.out
            have HUQ := Lib.hid huniq
            have htxr : TxR wr.drew (fun b => b5 + 1 ≤ b ∧ b < wr.heap.size) [.int .i64 (sig time), .slice A ops.length cap] ⟨time, ops⟩ :=
              ⟨A, cap, cs, rfl, hcap, hsrc, hrows.mono (fun _ _ _ h => h), hAlt⟩
            have hpay := refPayload_any _ _ ⟨time, ops⟩ wr.drew htxr (fun b hb => hb.2) HOK.out (by have := HTI.out; simpa using this) (by have := HL.out; dsimp only; omega)
            obtain ⟨pp, hpp⟩ : ∃ p, Pl.payload ⟨time, ops⟩ = p := ⟨_, rfl⟩
            rw [hpp] at hpay hiff
            have hb5r := HA.out.r5
            obtain ⟨nn, hnn⟩ : ∃ n, ops.length = n := ⟨_, rfl⟩
            have HTX : Hid (∀ W, Below wr.heap.size wr W → TxR W (fun b => b5 + 1 ≤ b ∧ b < wr.heap.size) [.int .i64 T, .slice A ops.length cap] ⟨time, ops⟩) := fun W hb => by
              rw [← HT.out]
              exact TxR.only (w := wr) ⟨A, cap, cs, rfl, hcap, hsrc, hrows, hAlt⟩ (Only.of_below hb (fun _ => False)) (fun _ _ h => h)
            rw [HT.out, hnn] at hpay
            have HPAY := Lib.hid hpay
            rw [hnn] at hb5r HTX
            have hcmp : ((tstr pp).toList == st.toList) = (pp == s) := by rw [← HST.out]; exact tstr_beq _ _
            obtain ⟨okb, hokb⟩ : ∃ b, (pp == s) = b := ⟨_, rfl⟩
            rw [hokb] at hcmp
            have HOB : Hid (okb = (Pl.readTx s).isSome) := by
              rw [Hid, Bool.eq_iff_iff, hiff, ← hokb, beq_iff_eq]
            have HD : Hid (∀ W, Below wr.heap.size wr W → W.cell? ⟨b5, 0, none⟩ = some (.int .i64 T) ∧ W.cell? ⟨b5, 1, none⟩ = some (.slice A nn cap)) := fun W hb => ⟨(hb5r.below hb hb5r.lt).cell 0, (hb5r.below hb hb5r.lt).cell 1⟩
            have B_0 : Hid (Below wr.heap.size wr wr.drew) := (Below.refl _ _).drew
            obtain ⟨e0, e1, f0, f1⟩ := facts2 hb5r
            have HB5 := Lib.hid hb5r
            clear hcap hsrc hrows hAlt hd hiff huniq htxr hpay hpp hnn hokb hb5r HOL
            go_wp2_with fail
            refine wp_region_L 99 (fun _ => True) (fun W => W.cell? ⟨b5, 0, none⟩ = some (.int .i64 T) ∧ W.cell? ⟨b5, 1, none⟩ = some (.slice A nn cap)) (by kernel_rfl) trivial (HD.out _ B_0.out) (fun hTill => ?_)
            refine wpL_take' (i := 0) (oi := _) (v := ?_) rfl (by kernel_rfl) (by kernel_rfl) (by kernel_rfl) (by kernel_rfl) (fun _ _ _ h => h) (.inl ⟨by rfl, ?_⟩) (by assumption) ?_
            rotate_left
            · intro W hSw
              (try dsimp only at hSw)
              go_simp
              (try rfl)
            (try simp only [Act.put, List.getElem_toArray, List.getElem_cons_succ, List.getElem_cons_zero, List.setIfInBounds_toArray, List.set_cons_zero, List.set_cons_succ])
            refine wpL_take' (i := 1) (oi := _) (v := ?_) rfl (by kernel_rfl) (by kernel_rfl) (by kernel_rfl) (by kernel_rfl) (fun _ _ _ h => h) (.inl ⟨by rfl, ?_⟩) (by assumption) ?_
            rotate_left
            · intro W hSw
              (try dsimp only at hSw)
              go_simp
              (try rfl)
            (try simp only [Act.put, List.getElem_toArray, List.getElem_cons_succ, List.getElem_cons_zero, List.setIfInBounds_toArray, List.set_cons_zero, List.set_cons_succ])
            refine wpL_take' (i := 3) (oi := _) (v := ?_) rfl (by kernel_rfl) (by kernel_rfl) (by kernel_rfl) (by kernel_rfl) (fun _ _ _ h => h) (.inl ⟨by rfl, ?_⟩) (by assumption) ?_
            rotate_left
            · intro W hSw
              (try dsimp only at hSw)
              go_simp
              (try rfl)
            (try simp only [Act.put, List.getElem_toArray, List.getElem_cons_succ, List.getElem_cons_zero, List.setIfInBounds_toArray, List.set_cons_zero, List.set_cons_succ])
            refine wpL_ready (rs := [2]) (by kernel_rfl) (by simp) ?_
            refine AllL.cons (o := _) rfl (fun K hK => ?_) AllL.nil
            go_simp
            refine HPAY.out.mono ?_
            rintro e W1 ⟨rfl, hb1⟩
            have B_1 : Hid (Below wr.heap.size wr W1) := B_0.out.trans hb1
            have HA1 := Lib.hid (HA.out.mono B_1.out)
            clear hb1 d0 d1 k0 k1
            obtain ⟨d0, d1, k0, k1⟩ := facts2 HA1.out.r2
            go_wp2_with fail
            refine hK.out _ _ ⟨fun _ => trivial, HD.out _ B_1.out⟩ (fun hTill => ?_)
            clear hK K
            (try simp only [Act.put, List.getElem_toArray, List.getElem_cons_succ, List.getElem_cons_zero, List.setIfInBounds_toArray, List.set_cons_zero, List.set_cons_succ])
            refine wpL_take' (i := 4) (oi := _) (v := ?_) rfl (by kernel_rfl) (by kernel_rfl) (by kernel_rfl) (by kernel_rfl) (fun _ _ _ h => h) (.inl ⟨by rfl, ?_⟩) (by assumption) ?_
            rotate_left
            · intro W hSw
              (try dsimp only at hSw)
              go_simp
              (try rfl)
            (try simp only [Act.put, List.getElem_toArray, List.getElem_cons_succ, List.getElem_cons_zero, List.setIfInBounds_toArray, List.set_cons_zero, List.set_cons_succ])
            refine wpL_ready (rs := [5]) (by kernel_rfl) (by simp) ?_
            refine AllL.cons (o := _) rfl (fun K hK => ?_) AllL.nil
            go_simp
            obtain ⟨W2, hW2⟩ : ∃ W, (W1.setCell ⟨b2, 0, none⟩ (.int .i64 T)).setCell ⟨b2, 1, none⟩ (.slice A nn cap) = W := ⟨_, rfl⟩
            have ho2 : Only (· = b2) W1 W2 := by rw [← hW2]; exact ((Only.refl (· = b2) W1).setCell (p := ⟨b2, 0, none⟩) (.inl rfl) _).setCell (p := ⟨b2, 1, none⟩) (.inl rfl) _
            have HR2 : Hid (Blk W2 b2 90 [.int .i64 T, .slice A nn cap]) := by rw [Hid, ← hW2]; exact (HA1.out.r2.set_ 0 _).set_ 1 _
            have hq5 := ho2.blk (HB5.out.below B_1.out HB5.out.lt) (by have := HA.out.low; omega)
            have HO2 := Lib.hid ho2
            (try rw [hW2])
            refine hK.out _ _ ⟨fun _ => trivial, hq5.cell 0, hq5.cell 1⟩ (fun hTill => ?_)
            clear hK K hq5 ho2
            (try simp only [Act.put, List.getElem_toArray, List.getElem_cons_succ, List.getElem_cons_zero, List.setIfInBounds_toArray, List.set_cons_zero, List.set_cons_succ])
            refine wpL_take' (i := 6) (oi := _) (v := ?_) rfl (by kernel_rfl) (by kernel_rfl) (by kernel_rfl) (by kernel_rfl) (fun _ _ _ h => h) (.inl ⟨by rfl, ?_⟩) (by assumption) ?_
            rotate_left
            · intro W hSw
              (try dsimp only at hSw)
              go_simp
              (try rfl)
            (try simp only [Act.put, List.getElem_toArray, List.getElem_cons_succ, List.getElem_cons_zero, List.setIfInBounds_toArray, List.set_cons_zero, List.set_cons_succ])
            refine wpL_done (by kernel_rfl) ?_ _
            clear hTill
            go_wp2_with fail
            refine bodyPost_ret (results_txR rfl rfl rfl HR2.out) rfl ⟨T, A, nn, cap, okb, rfl, ?_, HOB.out, fun t ht => ?_⟩
            · exact HA1.out.below.trans (HO2.out.toBelow HA1.out.below.size (fun k hk e => by have := HA1.out.low; omega))
            · rw [HUQ.out t ht]
              have h12 : W1.heap.size ≤ W2.heap.size := HO2.out.size
              have hw1 : wr.heap.size ≤ W1.heap.size := B_1.out.size
              have hlow := HA.out.low
              exact ((HTX.out W1 B_1.out).only HO2.out (fun b hb e => by omega)).mono (fun b hb => ⟨by omega, by omega⟩)
end Go.Proofs.YtljmklohgpaopaaGreatDoor
