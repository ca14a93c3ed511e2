/- The walk of the codec's Read. Bytes that a call owns, and what is appended to them; the codec's short, Value. -/
import Derived.Test.YtljmklohgpaopaaGreatDoorMgClashes8
import Derived.Lib.AppendStr
set_option linter.unusedVariables false
set_option linter.unusedSimpArgs false

namespace Go.Proofs.YtljmklohgpaopaaGreatDoor
open Go.RowKit

theorem Tryz.infoOp : (Tryz.prog.info? 259).map (fun i => (i.zero, i.size, i.bytes)) = some (some (.agg #[.int .i64 0, .string ⟨#[]⟩, .slice none 0 0, .slice none 0 0]), 4, 72) := by kernel_rfl
theorem op_room {n m : Nat} (h : n + m ≤ 1048576) : ∀ old, old < n + m → Builtin.nextslicecap (n + m) old * 72 ≤ 281474976710656 := by
  intro old ho
  have := nextslicecap_le54 ho
  omega
/-- The cells of a transaction. -/
def TxR (w : World) (P : Nat → Prop) (c : List Value) (t : Pl.Txn) : Prop :=
  ∃ A cap cs, c = [.int .i64 (sig t.time), .slice A t.ops.length cap] ∧ t.ops.length ≤ cap ∧ Src w A cs ∧ RowsR 4 (OpR w P) cs t.ops ∧ ∀ p, A = some p → P p.block
theorem TxR.only {F P : Nat → Prop} {w w' : World} {c : List Value} {t : Pl.Txn} (h : TxR w P c t) (ho : Only F w w') (hF : ∀ b, P b → ¬ F b) : TxR w' P c t := by
  obtain ⟨A, cap, cs, h1, h2, h3, h4, h5⟩ := h
  exact ⟨A, cap, cs, h1, h2, ho.src h3 (fun p hp => hF _ (h5 p hp)), h4.mono (fun _ _ _ h => h.only ho hF), h5⟩
theorem TxR.mono {P P' : Nat → Prop} {w : World} {c : List Value} {t : Pl.Txn} (h : TxR w P c t) (hP : ∀ b, P b → P' b) : TxR w P' c t := by
  obtain ⟨A, cap, cs, h1, h2, h3, h4, h5⟩ := h
  exact ⟨A, cap, cs, h1, h2, h3, h4.mono (fun _ _ _ h => h.mono hP), fun p hp => hP _ (h5 p hp)⟩
def ReadPost (w : World) (l : List UInt8) (e : Ending) (w' : World) : Prop :=
  ∃ (T : Int) (A' : Option Addr) (n' cap' : Nat) (ok : Bool), e = .returned (.tuple #[.agg #[.int .i64 T, .slice A' n' cap'], .bool ok]) ∧ Below w.heap.size w w' ∧ ok = (Pl.readTx l).isSome ∧
    ∀ t, Pl.readTx l = some t → TxR w' (fun b => w.heap.size ≤ b ∧ b < w'.heap.size) [.int .i64 T, .slice A' n' cap'] t
theorem results_tx {fn : Func} {t s : Tmp} {tmps : Array Value} {w : World} {g : Nat} {a b c : Value} (h : fn.results = #[.cell t 210, .tmp s]) (ht : tmps.getD t undef = .pointer (some ⟨g, 0, none⟩)) (hs : tmps.getD s undef = c) (hB : Blk w g 210 [a, b]) :
    (results fn tmps).run Tryz.prog w = .ok (.tuple #[.agg #[a, b], c]) w := by
  have c0 := hB.cell 0
  have c1 := hB.cell 1
  simp only [List.getElem?_cons_succ, List.getElem?_cons_zero] at c0 c1
  simp only [Array.getD_eq_getD_getElem?] at ht hs
  simp [results, h, ht, hs, go_sem, c0, c1, asAddr]
/-- A block without bytes is none of a reader's. -/
theorem Rdr.off {w w' : World} {g k : Nat} {l : List UInt8} {bad : Bool} {t : TypeId} {cs : List Value} (h : Rdr w g l bad) (hB : Blk w k t cs) (hk : g ≠ k) (hcs : ∀ u ∈ cs, ∀ x, u ≠ .int .u8 x) (ho : Only (· = k) w w') : Rdr w' g l bad := by
  obtain ⟨A, cap, h1, h2, h3, h4, h5⟩ := h
  refine ⟨A, cap, h1, h2, ho.blk h3 hk, ?_, h5⟩
  rcases h4 with h4 | ⟨b, off, rfl, h4⟩
  · exact .inl h4
  · refine .inr ⟨b, off, rfl, fun i hi => ho.cell (h4 i hi) ?_⟩
    rintro rfl
    have := h4 i hi
    rw [hB.cell] at this
    exact hcs _ (List.mem_of_getElem? this) _ rfl
/-- What a round of Read's loop keeps. -/
def OpsAt (w : World) (base : Nat) (v : Value) (ops : List Pl.Opn) : Prop :=
  ∃ cs, w.ownsRow base 259 4 v ops.length cs ∧ RowsR 4 (OpR w (fun b => base ≤ b ∧ b < w.heap.size ∧ v.ownBlock ≠ some b)) cs ops
theorem OpsAt.nil (w : World) (base : Nat) : OpsAt w base (.slice none 0 0) [] := ⟨[], World.ownsRow_nil _ _ _ _, RowsR.nil _ _⟩
theorem OpsAt.only {F : Nat → Prop} {w w' : World} {base : Nat} {v : Value} {ops : List Pl.Opn} (h : OpsAt w base v ops) (ho : Only F w w') (hF : ∀ x, base ≤ x → ¬ F x) : OpsAt w' base v ops := by
  obtain ⟨cs, h1, h2⟩ := h
  exact ⟨cs, ho.own h1 (fun g hg => hF g (h1.lt g hg).1), h2.mono (fun _ _ _ h => (h.only ho (fun b hb => hF b hb.1)).mono (fun b hb => ⟨hb.1, Nat.lt_of_lt_of_le hb.2.1 ho.size, hb.2.2⟩))⟩

theorem OpsAt.snoc {w w1 w3 w4 w5 : World} {base : Nat} {v v3 : Value} {ops : List Pl.Opn} {o : Pl.Opn} {cs c : List Value} {F : Nat → Prop} (h1 : w.ownsRow base 259 4 v ops.length cs)
    (h2 : RowsR 4 (OpR w (fun b => base ≤ b ∧ b < w.heap.size ∧ v.ownBlock ≠ some b)) cs ops) (hc : c.length = 4) (ho : OpR w1 (fun b => w.heap.size ≤ b ∧ b < w1.heap.size) c o) (hbase : base ≤ w.heap.size)
    (hF : ∀ x, F x → x < base) (o1 : Only F w w1) (o13 : w1.heap.size ≤ w3.heap.size) (o3 : Below w1.heap.size w1 w3) (hg : w3.grownBy w4 v.ownBlock) (hown : w4.ownsRow base 259 4 v3 (ops.length + 1) (cs ++ c)) (hv3 : v3.ownBlock = v.ownBlock ∨ v3.ownBlock = some w3.heap.size)
    (o5 : Only F w4 w5) : OpsAt w5 base v3 (ops ++ [o]) := by
  have hs3 := Nat.le_trans o1.size o3.size
  have h35 : w3.heap.size ≤ w5.heap.size := Nat.le_trans hg.size o5.size
  have hall : Only (fun x => F x ∨ v.ownBlock = some x) w w5 := (((o1.mono (fun _ _ h => .inl h)).below o3).grown hg (fun g h => .inl (.inr h))).trans o5 (fun _ _ h => .inl h)
  have hnew : Only (fun x => F x ∨ v.ownBlock = some x) w1 w5 := (((Only.refl _ w1).below o3).grown hg (fun g h => .inl (.inr h))).trans o5 (fun _ _ h => .inl h)
  refine ⟨cs ++ c, ?_, ?_⟩
  · have := o5.own hown (fun g hg' hf => by have := (hown.lt g hg').1; have := hF g hf; omega)
    simpa using this
  · refine RowsR.snoc (h2.mono (fun c x _ hx => ?_)) hc ?_
    · refine (hx.only hall (fun b hb hf => ?_)).mono (fun b hb => ⟨hb.1, by omega, fun e => ?_⟩)
      · rcases hf with hf | hf
        · have := hF b hf; omega
        · exact hb.2.2 hf
      · rcases hv3 with e3 | e3
        · exact hb.2.2 (by rw [← e3, e])
        · rw [e3] at e; injection e with e; omega
    · refine (ho.only hnew (fun b hb hf => ?_)).mono (fun b hb => ⟨by omega, by omega, fun e => ?_⟩)
      · rcases hf with hf | hf
        · have := hF b hf; omega
        · have := (h1.lt b hf).2; omega
      · rcases hv3 with e3 | e3
        · have := (h1.lt b (by rw [← e3, e])).2; omega
        · rw [e3] at e; injection e with e; omega

set_option maxHeartbeats 2000000 in
set_option maxRecDepth 100000 in
theorem read_any (A : Option Addr) (cap : Nat) (l : List UInt8) (w : World) (hb : BytesAt w A l) (hc : l.length ≤ cap) (hm : l.length ≤ 140737488351232) (hA : ∀ p, A = some p → p.block < w.heap.size) :
    Calls Tryz.prog 146 #[.slice A l.length cap] w (ReadPost w l) := by
  obtain ⟨i0, hi0, hz0, hz1, hz2⟩ := info_parts Tryz.infoOp
  obtain ⟨g2, hg2⟩ : ∃ g, w.heap.size = g := ⟨_, rfl⟩
  obtain ⟨w0, hw0⟩ : ∃ w0, w.alloc (.cells #[.int .i64 0, .slice none 0 0] 210) = w0 := ⟨_, rfl⟩
  have hb0 : Below w.heap.size w w0 := by rw [← hw0]; exact (Below.refl _ _).alloc (Nat.le_refl _) _
  have B2 : Blk w0 g2 210 [.int .i64 0, .slice none 0 0] := by rw [← hw0, ← hg2]; exact Blk.new w 210 _
  obtain ⟨g4, hg4⟩ : ∃ g, w0.heap.size = g := ⟨_, rfl⟩
  obtain ⟨w1, hw1⟩ : ∃ w1, w0.alloc (.cells #[.int .i64 0, .slice none 0 0] 210) = w1 := ⟨_, rfl⟩
  have hb1 : Below w.heap.size w w1 := by rw [← hw1]; exact hb0.alloc hb0.size _
  have B4 : Blk w1 g4 210 [.int .i64 0, .slice none 0 0] := by rw [← hw1, ← hg4]; exact Blk.new w0 210 _
  have B2' : Blk w1 g2 210 [.int .i64 0, .slice none 0 0] := by rw [← hw1]; exact B2.alloc _
  have h24 : g2 < g4 := by rw [← hg4]; exact B2.lt
  have hw2 : w.heap.size ≤ g2 := by omega
  obtain ⟨c0, c1, f0, f1⟩ := facts2 B4
  obtain ⟨d0, d1, k0, k1⟩ := facts2 B2'
  have HB4 := Lib.hid B4
  have HB2 := Lib.hid B2'
  have HB1 := Lib.hid hb1
  clear B2 B2' B4 hb0 hb1
  by_cases h4 : l.length < 4
  · have q1 : (l.length : Int) < 4 := by omega
    have hno : Pl.readTx l = none := by unfold Pl.readTx; rw [if_neg (fun h => by omega)]
    have HNO := Lib.hid hno
    have hres : Blk ((w1.setCell ⟨g2, 0, none⟩ (.int .i64 0)).setCell ⟨g2, 1, none⟩ (.slice none 0 0)) g2 210 [.int .i64 0, .slice none 0 0] := (HB2.out.set_ 0 _).set_ 1 _
    have HRES := Lib.hid hres
    clear h4 hno hres hb
    go_enter Tryz.func146, Tryz.ntmps146
    go_wp2_with fail
    refine bodyPost_ret (results_tx rfl rfl rfl HRES.out) rfl ⟨0, none, 0, 0, false, rfl, (HB1.out.setCell (p := ⟨g2, 0, none⟩) hw2 _).setCell (p := ⟨g2, 1, none⟩) hw2 _, by rw [HNO.out]; rfl, fun t ht => by rw [HNO.out] at ht; cases ht⟩
  · have q1 : ¬ (l.length : Int) < 4 := by omega
    obtain ⟨body, hbody⟩ : ∃ b, l.take (l.length - 4) = b := ⟨_, rfl⟩
    obtain ⟨tail, htail⟩ : ∃ b, l.drop (l.length - 4) = b := ⟨_, rfl⟩
    have hbl : body.length = l.length - 4 := by rw [← hbody, List.length_take]; omega
    have htl : tail.length = 4 := by rw [← htail, List.length_drop]; omega
    have hbi : IntKind.i64.wrap ((l.length : Int) - 4) = (body.length : Int) := by rw [show (l.length : Int) - 4 = (body.length : Int) by omega]; exact IntWalk.i64_in _ (by omega)
    obtain ⟨A2, hA2⟩ : ∃ A2, (if cap = body.length then A else A.map (·.add body.length)) = A2 := ⟨_, rfl⟩
    obtain ⟨cap2, hcap2⟩ : ∃ c, cap - body.length = c := ⟨_, rfl⟩
    have hsl : ∀ W, (Instr.slice 25 (.slice A l.length cap) (some (.int .i64 (body.length : Int))) none none).run Tryz.prog W = .ok (.slice A2 tail.length cap2) W := fun W => by
      rw [run_slice_from W A l.length cap body.length _ rfl (by omega), hA2, hcap2, htl, show l.length - body.length = 4 by omega]
    have hbw : BytesAt w1 A l := hb.keep HB1.out
    have hT1 : BytesAt w1 A2 tail := by rw [← htail, ← hA2, hbl]; exact hbw.cut _ _ (by omega) hc
    have hA' : ∀ p, A = some p → p.block < w1.heap.size := fun p hp => Nat.lt_of_lt_of_le (hA p hp) HB1.out.size
    have hBB : BytesAt w1 A body := by rw [← hbody]; exact hbw.head _
    obtain ⟨g6, hg6⟩ : ∃ g, w1.heap.size = g := ⟨_, rfl⟩
    obtain ⟨w2, hw2'⟩ : ∃ w2, w1.alloc (.cells #[.slice A body.length cap, .bool false] 289) = w2 := ⟨_, rfl⟩
    have hb2 : Below w1.heap.size w1 w2 := by rw [← hw2']; exact (Below.refl _ _).alloc (Nat.le_refl _) _
    have HR0 : Hid (Rdr w2 g6 body false) := ⟨A, cap, by omega, by omega, by rw [← hw2', ← hg6]; exact Blk.new w1 289 _, hBB.keep hb2, fun p hp => by rw [← hg6]; exact hA' p hp⟩
    have HT2 : Hid (BytesAt w2 A2 tail) := hT1.keep hb2
    have HBB2 : Hid (BytesAt w2 A body) := hBB.keep hb2
    have HG := Lib.hid (get_any A2 cap2 tail w2 HT2.out (by omega))
    have HC := Lib.hid (check_any A cap body w2 HBB2.out (by omega))
    obtain ⟨chk, hchk⟩ : ∃ c, decide (Pl.num tail = 4294967295 - Pl.checkN body) = c := ⟨_, rfl⟩
    have heq : ((Pl.num tail : Int) == ((4294967295 - Pl.checkN body : Nat) : Int)) = chk := by
      rw [← hchk, Bool.eq_iff_iff, beq_iff_eq, decide_eq_true_iff]; omega
    obtain ⟨nt, hnt⟩ : ∃ n, Pl.num tail = n := ⟨_, rfl⟩
    obtain ⟨nc, hnc⟩ : ∃ n, 4294967295 - Pl.checkN body = n := ⟨_, rfl⟩
    rw [hnt, hnc] at heq
    have hncl : nc ≤ 4294967295 := by omega
    unfold Hid at HG HC
    rw [hnt] at HG
    rw [hnc] at HC
    have HG := Lib.hid HG
    have HC := Lib.hid HC
    have HM := Lib.hid (must_any g6 body false chk w2 HR0.out)
    have B46 : g4 < g6 := by rw [← hg6]; exact HB4.out.lt
    have HB4 := Lib.hid (HB4.out.below hb2 (by omega))
    have HB2 := Lib.hid (HB2.out.below hb2 (by omega))
    have HW2 : Hid (Below w.heap.size w w2) := HB1.out.trans (hb2.mono HB1.out.size)
    have HCHK := Lib.hid hchk
    have HBODY := Lib.hid hbody
    have HTAIL := Lib.hid htail
    have hle : body.length ≤ cap := by omega
    have hle2 : body.length ≤ l.length := by omega
    have HBL := Lib.hid hbl
    have HTL := Lib.hid htl
    have H4 := Lib.hid (show 4 ≤ l.length by omega)
    clear hb2 hT1 hBB hb hbw hA hA' hA2 hcap2 hchk hbody htail hnt hnc HB1 hbl htl h4 hc
    go_enter Tryz.func146, Tryz.ntmps146
    go_wp2_with fail
    refine HG.out.mono ?_
    rintro e w' ⟨rfl, rfl⟩
    go_wp2_with fail
    refine HC.out.mono ?_
    rintro e w' ⟨rfl, rfl⟩
    go_wp2_with fail
    refine HM.out.mono ?_
    rintro e w3 ⟨rfl, hR, hO⟩
    obtain ⟨b0, hbb0⟩ : ∃ b, (false || !chk) = b := ⟨_, rfl⟩
    rw [hbb0] at hR
    have HO := Lib.hid hO
    have HB0 := Lib.hid hbb0
    have hn8 := num8_any g6 body b0 w3 hR
    obtain ⟨l1, hl1⟩ : ∃ x, body.drop 8 = x := ⟨_, rfl⟩
    obtain ⟨b1, hb1⟩ : ∃ b, (b0 || decide (body.length < 8)) = b := ⟨_, rfl⟩
    obtain ⟨T, hT⟩ : ∃ T, sig (Pl.num (body.take 8)) = T := ⟨_, rfl⟩
    rw [hl1, hb1, hT] at hn8
    have HN8 := Lib.hid hn8
    have HL1 := Lib.hid hl1
    have HBB1 := Lib.hid hb1
    have HT := Lib.hid hT
    clear hR hO hbb0 hn8 hl1 hb1 hT c0 c1 f0 f1 d0 d1 k0 k1
    have hB4 := HO.out.blk HB4.out (by omega)
    obtain ⟨c0, c1, f0, f1⟩ := facts2 hB4
    go_wp2_with fail
    refine HN8.out.mono ?_
    rintro e w4 ⟨rfl, hR, hO⟩
    have hB4 := (Only.of_grown hO).blk hB4 (by omega)
    have HO4 := Lib.hid (HO.out.trans' (Only.of_grown hO))
    clear c0 c1 f0 f1 hO
    obtain ⟨c0, c1, f0, f1⟩ := facts2 hB4
    obtain ⟨w5, hw5⟩ : ∃ w5, w4.setCell ⟨g4, 0, none⟩ (.int .i64 T) = w5 := ⟨_, rfl⟩
    have ho5 : Only (· = g4) w4 w5 := by rw [← hw5]; exact (Only.refl (· = g4) w4).setCell (p := ⟨g4, 0, none⟩) (.inl rfl) _
    have HB4 : Hid (Blk w5 g4 210 [.int .i64 T, .slice none 0 0]) := by rw [Hid, ← hw5]; exact hB4.set_ 0 _
    have HR5 := Lib.hid (hR.off hB4 (by omega) (by simp) ho5)
    have HO5 : Hid (Only (fun x => x = g6 ∨ x = g4) w2 w5) := (HO4.out.mono (fun _ _ h => .inl h)).trans ho5 (fun _ _ h => .inr h)
    have hn1 := num_any g6 1 l1 b1 w5 HR5.out (by omega)
    have hnl := Pl.num_take_lt l1 1
    obtain ⟨l2, hl2⟩ : ∃ x, l1.drop 1 = x := ⟨_, rfl⟩
    obtain ⟨b2, hb2⟩ : ∃ b, (b1 || decide (l1.length < 1)) = b := ⟨_, rfl⟩
    obtain ⟨N, hN⟩ : ∃ N, Pl.num (l1.take 1) = N := ⟨_, rfl⟩
    rw [hl2, hb2, hN] at hn1
    rw [hN] at hnl
    have hN' : N < 256 := by simpa using hnl
    have HN1 := Lib.hid hn1
    have HL2 := Lib.hid hl2
    have HBB2 := Lib.hid hb2
    have HNN := Lib.hid hN
    clear hR hB4 hn1 hl2 hb2 hN hnl ho5
    go_wp2_with fail
    clear c0 c1 f0 f1
    refine HN1.out.mono ?_
    rintro e w6 ⟨rfl, hR6, hO6⟩
    have HO6 := Lib.hid (HO5.out.trans (Only.of_grown hO6) (fun _ _ h => .inl h))
    have HB4 := Lib.hid ((Only.of_grown hO6).blk HB4.out (by omega))
    obtain ⟨okb, hokb⟩ : ∃ okb, decide (1 ≤ N ∧ N ≤ 16) = okb := ⟨_, rfl⟩
    obtain ⟨b3, hb3⟩ : ∃ b3, (b2 || !okb) = b3 := ⟨_, rfl⟩
    have HMU := must_any g6 l2 b2 okb w6 hR6
    rw [hb3] at HMU
    have HMU := Lib.hid HMU
    have HOK := Lib.hid hokb
    have HB3 := Lib.hid hb3
    have hcase : ((1 : Int) ≤ (N : Int) ∧ decide ((1 : Int) ≤ (N : Int)) = true ∧ (N : Int) ≤ 16 ∧ decide ((N : Int) ≤ 16) = true ∧ okb = true) ∨ (¬ (1 : Int) ≤ (N : Int) ∧ decide ((1 : Int) ≤ (N : Int)) = false ∧ okb = false) ∨ ((1 : Int) ≤ (N : Int) ∧ decide ((1 : Int) ≤ (N : Int)) = true ∧ ¬ (N : Int) ≤ 16 ∧ decide ((N : Int) ≤ 16) = false ∧ okb = false) := by
      rw [← hokb]
      by_cases h1 : 1 ≤ N
      · by_cases h2 : N ≤ 16
        · exact .inl ⟨by omega, by simp; omega, by omega, by simp; omega, by simp [h1, h2]⟩
        · exact .inr (.inr ⟨by omega, by simp; omega, by omega, by simp; omega, by simp [h2]⟩)
      · exact .inr (.inl ⟨by omega, by simp; omega, by simp [h1]⟩)
    clear hokb hb3 hR6 hO6
    go_upto_region 9 with (fail)
    go_cut [] from 36 (fun wx => Hid (Rdr wx g6 l2 b3) ∧ Hid (Blk wx g4 210 [.int .i64 T, .slice none 0 0]) ∧ Hid (Only (fun x => x = g6 ∨ x = g4) w2 wx))
    case first =>
      rcases hcase with ⟨h1, d1, h2, d2, rfl⟩ | ⟨h1, d1, rfl⟩ | ⟨h1, d1, h2, d2, rfl⟩
      all_goals
        go_wp2_with fail
        refine HMU.out.mono ?_
        rintro e w7 ⟨rfl, hR7, hO7⟩
        go_wp2_with fail
        go_meet
        exact ⟨hR7, hO7.blk HB4.out (by omega), HO6.out.trans hO7 (fun _ _ h => .inl h)⟩
    case rest =>
      clear hcase
      obtain ⟨HR7, HB4, HO7⟩ := hcut
      go_wp2_with fail
      go_loopw [7] (fun n wr => ∃ (r : Nat) (ops : List Pl.Opn) (v : Value) (lr : List UInt8) (br : Bool), r ≤ N ∧ n = .int .i64 ((N - r : Nat) : Int) ∧ Hid (ops.length = r) ∧ Hid (OpsAt wr w2.heap.size v ops) ∧ Hid (Blk wr g4 210 [.int .i64 T, v]) ∧
        Hid (Rdr wr g6 lr br) ∧ Hid (Only (fun x => x = g6 ∨ x = g4) w2 wr) ∧ Hid (ManyAt Pl.pOp N l2 b3 r ops lr br)) (fun n _ => (intOf n).toNat)
      case atStart => exact ⟨0, [], _, _, _, Nat.zero_le _, rfl, rfl, OpsAt.nil _ _, HB4.out, HR7.out, HO7.out, ManyAt.start _ _ _ _⟩
      case round =>
        obtain ⟨r, ops, v, lr, br, hr, rfl, HPL, HOP, HB4, HRr, HO, HAT⟩ := hrel
        obtain ⟨q, hq⟩ : ∃ q, N - r = q := ⟨_, rfl⟩
        rw [hq]
        have hq' : r + q = N := by omega
        have HQ := Lib.hid hq'
        have hrN : r ≤ N := hr
        have hqb : q < 256 := by omega
        clear hq hq'
        obtain ⟨Ar, capr, hrc, hrm, hrB, hrb, hrA⟩ := HRr.out
        have c1 := hrB.cell 1
        simp only [List.getElem?_cons_succ, List.getElem?_cons_zero] at c1
        clear hrc hrm hrb hrA
        by_cases hgo : br = false ∧ 0 < q
        · obtain ⟨rfl, hq0⟩ := hgo
          have hq1 : (0 : Int) < (q : Int) := by omega
          have HV := Lib.hid (op_any g6 lr false wr.drew HRr.out)
          obtain ⟨cs, hown, hrows⟩ := HOP.out
          have HROWS := Lib.hid hrows
          have HOWN := Lib.hid hown
          clear hown hrows HOP
          have hc4 := HB4.out.cell 1
          simp only [List.getElem?_cons_succ, List.getElem?_cons_zero] at hc4
          have HC4 := Lib.hid hc4
          clear hrB hc4
          go_wp2_with fail
          refine wp_region_L 5 (fun W => W.cell? ⟨g4, 1, none⟩ = some v) (fun _ => True) (by kernel_rfl) HC4.out trivial (fun hTill => ?_)
          refine wpL_take' (i := 0) (oi := _) (v := ?_) rfl (by kernel_rfl) (by kernel_rfl) (by kernel_rfl) (by kernel_rfl) (fun _ _ _ h => h) (.inl ⟨by rfl, ?_⟩) (by assumption) ?_
          rotate_left
          · intro W hSw
            (try dsimp only at hSw)
            go_simp
            (try rfl)
          (try simp only [Act.put, List.getElem_toArray, List.getElem_cons_succ, List.getElem_cons_zero, List.setIfInBounds_toArray, List.set_cons_zero, List.set_cons_succ])
          refine wpL_take (i := 1) (oi := _) (v := ?_) rfl (by kernel_rfl) (by kernel_rfl) (by kernel_rfl) (by kernel_rfl) (fun _ _ _ h => h) (.inl ⟨by rfl, ?_⟩) (by assumption) ?_
          rotate_left
          · intro W hSw
            (try dsimp only at hSw)
            go_simp
            (try rfl)
          (try simp only [Act.put, List.getElem_toArray, List.getElem_cons_succ, List.getElem_cons_zero, List.setIfInBounds_toArray, List.set_cons_zero, List.set_cons_succ])
          refine wpL_take' (i := 2) (oi := _) (v := ?_) rfl (by kernel_rfl) (by kernel_rfl) (by kernel_rfl) (by kernel_rfl) (fun _ _ _ h => h) (.inl ⟨by rfl, ?_⟩) (by assumption) ?_
          rotate_left
          · intro W hSw
            (try dsimp only at hSw)
            go_simp
            (try rfl)
          (try simp only [Act.put, List.getElem_toArray, List.getElem_cons_succ, List.getElem_cons_zero, List.setIfInBounds_toArray, List.set_cons_zero, List.set_cons_succ])
          refine wpL_ready (rs := [3]) (by kernel_rfl) (by simp) ?_
          refine AllL.cons (o := _) rfl (fun K hK => ?_) AllL.nil
          go_simp
          refine HV.out.mono ?_
          rintro e w8 ⟨x, o, rfl, hov, hob, l', bad', hR8, hbad', hok', ho8⟩
          obtain ⟨c, rfl, hcl, hor⟩ := hov.cells
          obtain ⟨Ac, cc, Aw, cw, rfl, hh⟩ := hor
          have hor := Lib.hid (show OpR w8 (fun b => wr.heap.size ≤ b ∧ b < w8.heap.size) _ o from ⟨Ac, cc, Aw, cw, rfl, hh⟩)
          have HST := Lib.hid (HAT.out.step (by have := HQ.out; omega) hbad' hok')
          have ho8 := Lib.hid ho8.undrew
          have hB48 := Lib.hid (ho8.out.blk HB4.out (by omega))
          have hC48 := hB48.out.cell 1
          have hR8 := Lib.hid hR8
          simp only [List.getElem?_cons_succ, List.getElem?_cons_zero] at hC48
          have HC48 := Lib.hid hC48
          clear hC48 hbad' hok' hh hov hob HV
          go_wp2_with fail
          refine hK.out _ _ ⟨fun _ => HC48.out, trivial⟩ (fun hTill => ?_)
          clear hK K
          (try simp only [Act.put, List.getElem_toArray, List.getElem_cons_succ, List.getElem_cons_zero, List.setIfInBounds_toArray, List.set_cons_zero, List.set_cons_succ])
          refine wpL_ready (rs := [4]) (by kernel_rfl) (by simp) ?_
          refine AllL.cons (o := _) rfl (fun K hK => ?_) AllL.nil
          go_simp
          obtain ⟨w9, hw9⟩ : ∃ w9, w8.alloc (.cells #[.int .i64 (o.kind : Nat), .string (tstr o.table), .slice Ac o.cols.length cc, .slice Aw o.row.length cw] 259) = w9 := ⟨_, rfl⟩
          have hb9 : Below w8.heap.size w8 w9 := by rw [← hw9]; exact (Below.refl _ _).alloc (Nat.le_refl _) _
          have hsrc9 : Hid (Src w9 (some ⟨w8.heap.size, 0, none⟩) [.int .i64 (o.kind : Nat), .string (tstr o.table), .slice Ac o.cols.length cc, .slice Aw o.row.length cw]) := Src.of_blk (t := 259) (by rw [← hw9]; exact Blk.new w8 259 _)
          have hgl : g6 < w2.heap.size := HR0.out.lt
          have hown9 := Lib.hid (Only.own ((Only.refl (fun _ => False) w8).below hb9) (ho8.out.own HOWN.out (fun g hg e => by have := (HOWN.out.lt g hg).1; omega)) (fun _ _ h => h))
          have hB49 := Lib.hid (hB48.out.below hb9 hB48.out.lt)
          have hbase9 : Hid (w2.heap.size ≤ w9.heap.size) := Nat.le_trans HO.out.size (Nat.le_trans ho8.out.size hb9.size)
          have hn9 : Hid (ops.length + 1 ≤ 256) := by rw [Hid, HPL.out]; omega
          have HB9 := Lib.hid hb9
          rw [hw9]
          refine hK.out _ _ ⟨fun _ => hB49.out.cell 1, trivial⟩ (fun hTill => ?_)
          clear hK K hb9
          (try simp only [Act.put, List.getElem_toArray, List.getElem_cons_succ, List.getElem_cons_zero, List.setIfInBounds_toArray, List.set_cons_zero, List.set_cons_succ])
          refine wpL_ready (rs := [5]) (by kernel_rfl) (by simp) ?_
          refine AllL.cons (o := _) rfl (fun K hK => ?_) AllL.nil
          refine step_append_src _ rfl (.tmp 56) (.tmp 59) 208 rfl w2.heap.size 259 i0 _ 4 72 Tryz.underlying208 hi0 hz0 hz1 hz2 rfl (by decide) v ops.length cs rfl hown9.out (some ⟨w8.heap.size, 0, none⟩) 1 1 _ rfl rfl hsrc9.out (by simp; exact ⟨rfl, rfl, rfl, rfl⟩) (by have := hn9.out; unfold maxLen; omega) (op_room (by have := hn9.out; omega)) hbase9.out ?_
          intro v3 w10 hown10 hgrow10 hat10
          refine hK.out _ _ ⟨fun h => Bool.noConfusion ((show _ = true by kernel_rfl).symm.trans h), trivial⟩ (fun hTill => ?_)
          clear hK K
          (try simp only [Act.put, List.getElem_toArray, List.getElem_cons_succ, List.getElem_cons_zero, List.setIfInBounds_toArray, List.set_cons_zero, List.set_cons_succ])
          refine wpL_take' (i := 6) (oi := _) (v := ?_) rfl (by kernel_rfl) (by kernel_rfl) (by kernel_rfl) (by kernel_rfl) (fun _ _ _ h => h) (.inl ⟨by rfl, ?_⟩) (by assumption) ?_
          rotate_left
          · intro W hSw
            (try dsimp only at hSw)
            go_simp
            (try rfl)
          (try simp only [Act.put, List.getElem_toArray, List.getElem_cons_succ, List.getElem_cons_zero, List.setIfInBounds_toArray, List.set_cons_zero, List.set_cons_succ])
          refine wpL_ready (rs := [7]) (by kernel_rfl) (by simp) ?_
          refine AllL.cons (o := _) rfl (fun K hK => ?_) AllL.nil
          have hb4o : v.ownBlock ≠ some g4 := fun e => by have := (HOWN.out.lt g4 e).1; omega
          have hB10 := hB49.out.grown hgrow10 (Ne.symm hb4o)
          obtain ⟨c40, c41, f40, f41⟩ := facts2 hB10
          obtain ⟨A3, cap3, rfl, hn3, hs3, hk3⟩ := own_src hown10
          go_simp
          obtain ⟨w11, hw11⟩ : ∃ w11, w10.setCell ⟨g4, 1, none⟩ (.slice A3 (ops.length + 1) cap3) = w11 := ⟨_, rfl⟩
          have ho11 : Only (· = g4) w10 w11 := by rw [← hw11]; exact (Only.refl (· = g4) w10).setCell (p := ⟨g4, 1, none⟩) (.inl rfl) _
          have hB11 : Hid (Blk w11 g4 210 [.int .i64 T, .slice A3 (ops.length + 1) cap3]) := by rw [Hid, ← hw11]; exact hB10.set_ 1 _
          have hall9 : Only (fun x => x = g6 ∨ x = g4) wr w9 := (ho8.out.mono (fun _ _ h => .inl h)).below HB9.out
          have hR9 := hR8.out.below HB9.out
          have hR10 : Rdr w10 g6 l' bad' := hR9.only (Only.mono (G := fun k => v.ownBlock = some k) ⟨hgrow10.os, hgrow10.tape, hgrow10.output, hgrow10.size, fun k hk hn => hgrow10.block k hk (fun e => hn e.symm)⟩ (fun _ _ h => h)) (fun y hy hn => by have := (HOWN.out.lt y hn).1; omega)
          have hR11 := Lib.hid (hR10.off hB10 (by omega) (by obtain ⟨_, _, hv, _⟩ := own_src HOWN.out; rw [hv]; simp) ho11)
          have HOP11 : Hid (OpsAt w11 w2.heap.size (.slice A3 (ops.length + 1) cap3) (ops ++ [o])) :=
            OpsAt.snoc (F := fun x => x = g6 ∨ x = g4) HOWN.out HROWS.out rfl hor.out HO.out.size (fun x hx => by have := HB4.out.lt; rcases hx with rfl | rfl <;> omega) (ho8.out.mono (fun _ _ h => .inl h)) HB9.out.size HB9.out hgrow10 hown10 hat10 (ho11.mono (fun _ _ h => .inr h))
          have HO11 : Hid (Only (fun x => x = g6 ∨ x = g4) w2 w11) := (((HO.out.trans' hall9)).grown hgrow10 (fun g hg => .inr (HOWN.out.lt g hg).1)).trans ho11 (fun _ _ h => .inr h)
          have hpl := HPL
          have hq2 := HQ
          clear hown10 hgrow10 hat10 hB10 hs3 hk3 ho11 hR9 hR10 hall9
          rw [hw11]
          refine hK.out _ _ ⟨fun h => Bool.noConfusion ((show _ = true by kernel_rfl).symm.trans h), trivial⟩ (fun hTill => ?_)
          clear hK K
          refine wpL_done (by kernel_rfl) ?_ _
          clear hTill
          go_wp2_with fail
          have hq3 := hq2.out
          refine ⟨⟨r + 1, ops ++ [o], _, l', bad', by omega, ?_, ?_, HOP11.out, hB11.out, hR11.out, HO11.out, HST.out⟩, ?_⟩
          · rw [show ((N - (r + 1) : Nat) : Int) = (q : Int) - 1 by omega]
          · rw [Hid, List.length_append, hpl.out]; rfl
          · simp [intOf]; omega
        · have hee : br = false → N ≤ r := fun e => by
            have := HQ.out
            have : ¬ 0 < q := fun h => hgo ⟨e, h⟩
            omega
          have hex : (br = true ∧ (0 : Int) < (q : Int)) ∨ ¬ (0 : Int) < (q : Int) := by
            cases br
            · exact .inr (by have := hee rfl; have := HQ.out; omega)
            · by_cases h : 0 < q
              · exact .inl ⟨rfl, by omega⟩
              · exact .inr (by omega)
          have HD1 := Lib.hid (HAT.out.done hee).1
          have HD2 := Lib.hid (HAT.out.done hee).2
          obtain ⟨cs, hown, hrows⟩ := HOP.out
          obtain ⟨A3, cap3, rfl, hn3, hs3, hk3⟩ := own_src hown
          have HOWN := Lib.hid hown
          have HROWS := Lib.hid hrows
          have c0 := hrB.cell 0
          obtain ⟨eb, heb⟩ : ∃ b, ((lr.length : Int) == 0) = b := ⟨_, rfl⟩
          have HEB : Hid (eb = decide (lr.length = 0)) := by rw [Hid, ← heb, Bool.eq_iff_iff, beq_iff_eq, decide_eq_true_iff]; omega
          obtain ⟨bf, hbf⟩ : ∃ b, (br || !eb) = b := ⟨_, rfl⟩
          have HMF := must_any g6 lr br eb wr HRr.out
          rw [hbf] at HMF
          have HMF := Lib.hid HMF
          have HBF := Lib.hid hbf
          have HK3 := Lib.hid hk3
          have HS3 := Lib.hid hs3
          clear hee hgo hown hrows hbf hrB hs3 hk3
          simp only [List.getElem?_cons_zero] at c0
          have hg24 : g2 ≠ g6 ∧ g2 ≠ g4 ∧ g4 ≠ g6 := by omega
          rcases hex with ⟨rfl, hq1⟩ | hq1
          all_goals
            go_wp2_with fail
            refine HMF.out.mono ?_
            rintro e w9 ⟨rfl, hRf, hOf⟩
            have HO9 := Lib.hid (HO.out.trans hOf (fun _ _ h => .inl h))
            have HB49 := Lib.hid (hOf.blk HB4.out hg24.2.2)
            have HB29 := Lib.hid (HO9.out.blk HB2.out (fun h => by rcases h with h | h <;> omega))
            obtain ⟨Af, capf, _, _, hrB, _, _⟩ := hRf
            have cf := hrB.cell 1
            simp only [List.getElem?_cons_succ, List.getElem?_cons_zero] at cf
            obtain ⟨m0, m1, y0, y1⟩ := facts2 HB49.out
            obtain ⟨p0, p1, z0, z1⟩ := facts2 HB29.out
            obtain ⟨w10, hw10⟩ : ∃ w10, ((w9.setCell ⟨g2, 0, none⟩ (.int .i64 T)).setCell ⟨g2, 1, none⟩ (.slice A3 ops.length cap3)).drew = w10 := ⟨_, rfl⟩
            have hB10 : Blk w10 g2 210 [.int .i64 T, .slice A3 ops.length cap3] := by rw [← hw10]; exact ((HB29.out.set_ 0 _).set_ 1 _).drew
            have ho10 : Only (· = g2) w9 w10 := by rw [← hw10]; exact (((Only.refl (· = g2) w9).setCell (p := ⟨g2, 0, none⟩) (.inl rfl) _).setCell (p := ⟨g2, 1, none⟩) (.inl rfl) _).drew
            have HS10 := Lib.hid (And.intro (ho10.cell m0 (Ne.symm hg24.2.1)) (And.intro (ho10.cell m1 (Ne.symm hg24.2.1)) (ho10.cell cf (Ne.symm hg24.1))))
            have HB10 := Lib.hid hB10
            have HO10 := Lib.hid ho10
            have HOF := Lib.hid hOf
            clear hrB hB10 ho10 hOf
            go_wp2_with fail
            obtain ⟨n26, n24, _⟩ := hg24
            have hD := read_end H4.out HBODY.out (show decide (Pl.num (l.drop (l.length - 4)) = 4294967295 - Pl.checkN body) = chk by rw [HTAIL.out]; exact HCHK.out) HL1.out HL2.out HNN.out
              (show (!chk || decide (body.length < 8)) = b1 by have h1 := HB0.out; have h2 := HBB1.out; rw [Bool.false_or] at h1; rw [h1]; exact h2) HBB2.out
              (show (b2 || !decide (1 ≤ N ∧ N ≤ 16)) = b3 by rw [HOK.out]; exact HB3.out) HD1.out HD2.out (show (!(_ || !decide (lr.length = 0))) = !bf by rw [← HEB.out, HBF.out])
            have HD := Lib.hid hD
            clear hD
            go_region_held3 (fun W : World => W.cell? ⟨g4, 0, none⟩ = some (.int .i64 T) ∧ W.cell? ⟨g4, 1, none⟩ = some (.slice A3 ops.length cap3) ∧ W.cell? ⟨g6, 1, none⟩ = some (.bool bf)) (first | exact ⟨m0, m1, cf⟩ | exact HS10.out) (fail)
            go_wp2_with fail
            have hgl : g6 < w2.heap.size := HR0.out.lt
            have hall : Only (fun x => x = g6 ∨ x = g4 ∨ x = g2) w w10 := ((Only.of_below HW2.out _).trans HO9.out (fun _ _ h => by rcases h with h | h; exact .inl h; exact .inr (.inl h))).trans HO10.out (fun _ _ h => .inr (.inr h))
            have hfr : Only (fun x => x < w2.heap.size) wr w10 := (HOF.out.mono (fun x _ (h : x = g6) => by show x < _; omega)).trans HO10.out (fun x _ (h : x = g2) => by show x < _; omega)
            refine bodyPost_ret (results_tx rfl rfl rfl HB10.out) rfl ⟨T, A3, ops.length, cap3, !bf, rfl, hall.toBelow (Nat.le_refl _) (fun k hk h => by omega), HD.out.1, fun t ht => ?_⟩
            have hok : (!bf) = true := by rw [HD.out.1, ht]; rfl
            have h5 := HD.out.2 hok
            rw [ht] at h5
            injection h5 with h5
            subst h5
            have hsz := hall.size
            have hw22 := HW2.out.size
            refine ⟨A3, cap3, cs, by rw [← HT.out], hn3, hfr.src HS3.out (fun p hp h => ?_), HROWS.out.mono (fun c x _ hx => (hx.only hfr (fun b hb h => by omega)).mono (fun b hb => ⟨by omega, Nat.lt_of_lt_of_le hb.2.1 hfr.size⟩)), fun p hp => ?_⟩
            · have := (HOWN.out.lt _ (HK3.out p hp)).1
              omega
            · have := HOWN.out.lt _ (HK3.out p hp)
              exact ⟨by omega, Nat.lt_of_lt_of_le this.2 hfr.size⟩
end Go.Proofs.YtljmklohgpaopaaGreatDoor

namespace Go.Proofs.YtljmklohgpaopaaGreatDoor
open Go.RowKit

section
variable {P : Program} (w : World)
theorem app_str_at (base : Nat) (t u ty e : TypeId) (i : TypeInfo) (ht : P.underlying t = some (.slice e)) (hu : P.underlying u = some .string) (hi : P.info? e = some i) (hz : i.zero = some (.int .u8 0)) (hsize : i.size = 1) (hby : i.bytes = 1)
    (v : Value) (n : Nat) (xs : List Value) (hown : w.ownsRow base e 1 v n xs) (s : ByteArray) (hb : n + s.size ≤ 140737488355328) {v' : Value} {w' : World}
    (hr : (Builtin.append_ #[t, u] ty #[v, .string s]).run P w = .ok v' w') : v'.ownBlock = v.ownBlock ∨ v'.ownBlock = some w.heap.size := by
  have hxl : xs.length = n := by simpa using hown.1
  rcases hown.2 with ⟨rfl, rfl⟩ | ⟨g, cap, cur, rfl, hbg, hg, hnc, hcm, hcs, htake⟩
  · by_cases hm : s.size = 0
    · have hf := Lib.run_firstCells_string (P := P) w 1 s
      rw [hm] at hf
      have : (Builtin.append_ #[t, u] ty #[.slice none 0 0, .string s]).run P w = .ok (.slice none 0 0) w := by
        simp [Builtin.append_, run_underlying ht, run_underlying hu, sizeOf, typeInfo, hi, hsize, Builtin.lenOf, hm, hf]
      rw [this] at hr
      injection hr with h1 _
      subst h1
      exact .inl rfl
    · rw [run_append_nil_string (P := P) w t u ty e i (.int .u8 0) ht hu hi hz s (by omega) (by omega) (by rw [hby]; omega)] at hr
      injection hr with h1 _
      subst h1
      exact .inr rfl
  · by_cases hroom : n + s.size ≤ cap
    · have hcz : cur.size = cap := by simpa using hcs
      rw [Lib.run_append_room_string (P := P) w t u ty e i ht hu hi hsize g n cap cur hg s hroom (by omega)] at hr
      injection hr with h1 _
      subst h1
      exact .inl rfl
    · rw [Lib.run_append_grow_string (P := P) w t u ty e i (.int .u8 0) ht hu hi hz ⟨g, 0, none⟩ n cap xs (by rw [hsize]; simpa using hxl) (hown.cells (g := g) rfl) s (by omega) (by omega) (by rw [hby]; exact growslice_fits (by omega) (by omega))] at hr
      injection hr with h1 _
      subst h1
      exact .inr rfl
end
/-- Bytes that the call owns. -/
def Ob (w : World) (base : Nat) (v : Value) (l : List UInt8) : Prop := w.ownsRow base 5 1 v l.length (bv l)
/-- What an append does: only v's row, or a new one. -/
def Mv (w w' : World) (v v' : Value) : Prop := w.grownBy w' v.ownBlock ∧ ∀ k, k < w.heap.size → v.ownBlock ≠ some k → v'.ownBlock ≠ some k
theorem Mv.refl (w : World) (v : Value) : Mv w w v v := ⟨⟨rfl, rfl, rfl, Nat.le_refl _, fun _ _ _ => rfl⟩, fun _ _ h => h⟩
theorem Mv.trans {a b c : World} {u v x : Value} (h : Mv a b u v) (k : Mv b c v x) : Mv a c u x :=
  ⟨⟨k.1.os.trans h.1.os, k.1.tape.trans h.1.tape, k.1.output.trans h.1.output, Nat.le_trans h.1.size k.1.size, fun i hi hn =>
    (k.1.block i (Nat.lt_of_lt_of_le hi h.1.size) (fun e => h.2 i hi (fun e => hn e.symm) e.symm)).trans (h.1.block i hi hn)⟩, fun i hi hn => k.2 i (Nat.lt_of_lt_of_le hi h.1.size) (h.2 i hi hn)⟩
theorem Mv.below {a b c : World} {u v : Value} (h : Mv a b u v) (k : Below b.heap.size b c) : Mv a c u v :=
  ⟨⟨k.os.trans h.1.os, k.tape.trans h.1.tape, k.output.trans h.1.output, Nat.le_trans h.1.size k.size, fun i hi hn => (k.block i (Nat.lt_of_lt_of_le hi h.1.size)).trans (h.1.block i hi hn)⟩, h.2⟩
theorem Mv.alloc {a b : World} {u v : Value} (h : Mv a b u v) (o : Obj) : Mv a (b.alloc o) u v := h.below ((Below.refl _ _).alloc (Nat.le_refl _) _)
theorem Mv.drew {a b : World} {u v : Value} (h : Mv a b u v) : Mv a b.drew u v := ⟨⟨h.1.os, h.1.tape, h.1.output, h.1.size, h.1.block⟩, h.2⟩
theorem Mv.only {a b : World} {u v : Value} (h : Mv a b u v) : Only (fun k => u.ownBlock = some k) a b := ⟨h.1.os, h.1.tape, h.1.output, h.1.size, fun k hk hn => h.1.block k hk (fun e => hn e.symm)⟩
theorem Mv.belowB {a b : World} {u v : Value} {base : Nat} {l : List UInt8} (h : Mv a b u v) (ho : Ob a base u l) (hb : base ≤ a.heap.size) : Below base a b := h.only.toBelow hb (fun k hk e => by have := (ho.lt k e).1; omega)
theorem Mv.before {a b c : World} {u v : Value} {base : Nat} {l : List UInt8} (h : Below a.heap.size a b) (k : Mv b c u v) (ho : Ob a base u l) : Mv a c u v :=
  ⟨⟨k.1.os.trans h.os, k.1.tape.trans h.tape, k.1.output.trans h.output, Nat.le_trans h.size k.1.size, fun i hi hn => (k.1.block i (Nat.lt_of_lt_of_le hi h.size) hn).trans (h.block i hi)⟩, fun i hi hn => k.2 i (Nat.lt_of_lt_of_le hi h.size) hn⟩
theorem Ob.nil (w : World) (base : Nat) : Ob w base (.slice none 0 0) [] := World.ownsRow_nil _ _ _ _
theorem Ob.below {w w' : World} {base : Nat} {v : Value} {l : List UInt8} (h : Ob w base v l) (k : Below w.heap.size w w') : Ob w' base v l := (Only.of_below k (fun _ => False)).own h (fun _ _ h => h)
theorem Ob.alloc {w : World} {base : Nat} {v : Value} {l : List UInt8} (h : Ob w base v l) (o : Obj) : Ob (w.alloc o) base v l := World.ownsRow.alloc h o
theorem Ob.bytes {w : World} {base : Nat} {v : Value} {l : List UInt8} (h : Ob w base v l) : ∃ A cap, v = .slice A l.length cap ∧ l.length ≤ cap ∧ BytesAt w A l ∧ ∀ p, A = some p → base ≤ p.block ∧ p.block < w.heap.size := by
  obtain ⟨A, cap, h1, h2, h3, h4⟩ := own_src h
  exact ⟨A, cap, h1, h2, h3.bytes, fun p hp => h.lt _ (h4 p hp)⟩
/-- A call that lays bytes behind others. -/
def Wr (w : World) (base : Nat) (v : Value) (l : List UInt8) (e : Ending) (w' : World) : Prop := ∃ v', e = .returned v' ∧ Ob w' base v' l ∧ Mv w w' v v'

section
variable {ops : Array Oper} {rest : List Oper} {o : Oper} {a : Act} {K : Act → World → Prop} {Q : Exit → Act → World → Prop} {w : World} {E : Prop}
theorem wp_ob (s x : Operand) (ho : o.op = .call { callee := .builtin .append, args := #[s, x], argTypes := #[25, 25] }) {base : Nat} {v : Value} {l : List UInt8} (hs : a.eval s = v) (hown : Ob w base v l)
    (A : Option Addr) (m c : Nat) (news : List UInt8) (hx : a.eval x = .slice A m c) (hm : news.length = m) (hr : Src w A (bv news)) (hl : l.length + m ≤ 70368744177664) (hb : base ≤ w.heap.size)
    (h : ∀ v' w', Ob w' base v' (l ++ news) → Mv w w' v v' → K (a.put o.dst v') w') : o.wp Tryz.prog a w K Q := by
  obtain ⟨i0, hi, hz0, hz1, hz2⟩ := info_parts Tryz.infoByte
  subst hm
  refine wp_append_src w s x 25 ho base 5 i0 (.int .u8 0) 1 1 Tryz.underlying25 hi hz0 hz1 hz2 rfl (by decide) v l.length (bv l) hs hown A news.length c (bv news) hx (by simp [bv]) hr (bv_one _) (by simp only [maxLen]; omega) (byte_room (n := l.length) (m := news.length) (by omega)) hb ?_
  intro v' w' h1 h2 h3
  refine h v' w' (by rw [Ob, List.length_append, bv_append]; exact h1) ⟨h2, fun k hk hn => ?_⟩
  rcases h3 with e | e
  · rw [e]; exact hn
  · rw [e]; intro e; injection e; omega
theorem wpList_ob (hgd : o.guard = none) (s x : Operand) (ho : o.op = .call { callee := .builtin .append, args := #[s, x], argTypes := #[25, 25] }) {base : Nat} {v : Value} {l : List UInt8} (hs : a.eval s = v) (hown : Ob w base v l)
    (A : Option Addr) (m c : Nat) (news : List UInt8) (hx : a.eval x = .slice A m c) (hm : news.length = m) (hr : Src w A (bv news)) (hl : l.length + m ≤ 70368744177664) (hb : base ≤ w.heap.size)
    (h : ∀ v' w', Ob w' base v' (l ++ news) → Mv w w' v v' → wpList Tryz.prog ops Q rest (a.put o.dst v') w') : wpList Tryz.prog ops Q (o :: rest) a w :=
  wpList_plain hgd fun _ hK => wp_ob s x ho hs hown A m c news hx hm hr hl hb fun v' w' h1 h2 => hK _ _ (h v' w' h1 h2)
theorem step_ob (hgd : o.guard = none) (s x : Operand) (ho : o.op = .call { callee := .builtin .append, args := #[s, x], argTypes := #[25, 25] }) {base : Nat} {v : Value} {l : List UInt8} (hs : a.eval s = v) (hown : Ob w base v l)
    (A : Option Addr) (m c : Nat) (news : List UInt8) (hx : a.eval x = .slice A m c) (hm : news.length = m) (hr : Src w A (bv news)) (hl : l.length + m ≤ 70368744177664) (hb : base ≤ w.heap.size)
    (h : ∀ v' w', Ob w' base v' (l ++ news) → Mv w w' v v' → K (a.put o.dst v') w') : if Region.wanted o (yielded ops a.tmps) = true then Oper.wp Tryz.prog o a w K Q else E := by
  rw [if_pos (by simp [Region.wanted, hgd])]
  exact wp_ob s x ho hs hown A m c news hx hm hr hl hb h
theorem wp_obs (s x : Operand) (ho : o.op = .call { callee := .builtin .append, args := #[s, x], argTypes := #[25, 9] }) {base : Nat} {v : Value} {l : List UInt8} (hs : a.eval s = v) (hown : Ob w base v l)
    (news : List UInt8) (hx : a.eval x = .string (tstr news)) (hl : l.length + news.length ≤ 70368744177664) (hb : base ≤ w.heap.size)
    (h : ∀ v' w', Ob w' base v' (l ++ news) → Mv w w' v v' → K (a.put o.dst v') w') : o.wp Tryz.prog a w K Q := by
  obtain ⟨i0, hi, hz0, hz1, hz2⟩ := info_parts Tryz.infoByte
  have hsz := tstr_size news
  obtain ⟨v', w', hr, h2, h3, h4⟩ := Lib.run_append_own_string (P := Tryz.prog) w base 25 9 o.type 5 i0 Tryz.underlying25 Tryz.underlying9 hi hz0 hz1 hz2 v l.length (bv l) hown (tstr news) (by rw [hsz]; simp only [maxLen]; omega) (by rw [hsz]; omega) hb
  have hat := app_str_at (P := Tryz.prog) w base 25 9 o.type 5 i0 Tryz.underlying25 Tryz.underlying9 hi hz0 hz1 hz2 v l.length (bv l) hown (tstr news) (by rw [hsz]; omega) hr
  unfold Oper.wp execOp
  simp only [ho, resolve, invoke, builtin, Sem.run_bind, Sem.run_pure, Result.andThen_ok, List.map_toArray, List.map_cons, List.map_nil, hs, hx, hr]
  refine h v' w' (by rw [Ob, List.length_append, bv_append]; rw [hsz] at h2; exact h2) ⟨h3, fun k hk hn => ?_⟩
  rcases hat with e | e
  · rw [e]; exact hn
  · rw [e]; intro e; injection e; omega
theorem wpList_obs (hgd : o.guard = none) (s x : Operand) (ho : o.op = .call { callee := .builtin .append, args := #[s, x], argTypes := #[25, 9] }) {base : Nat} {v : Value} {l : List UInt8} (hs : a.eval s = v) (hown : Ob w base v l)
    (news : List UInt8) (hx : a.eval x = .string (tstr news)) (hl : l.length + news.length ≤ 70368744177664) (hb : base ≤ w.heap.size)
    (h : ∀ v' w', Ob w' base v' (l ++ news) → Mv w w' v v' → wpList Tryz.prog ops Q rest (a.put o.dst v') w') : wpList Tryz.prog ops Q (o :: rest) a w :=
  wpList_plain hgd fun _ hK => wp_obs s x ho hs hown news hx hl hb fun v' w' h1 h2 => hK _ _ (h v' w' h1 h2)
end

theorem src_one (w : World) (c : Nat) (hc : c < 256) : Src (w.alloc (.cells #[.int .u8 (c : Int)] 5)) (some ⟨w.heap.size, 0, none⟩) (bv [UInt8.ofNat c]) := by
  have : bv [UInt8.ofNat c] = [.int .u8 (c : Int)] := by simp [bv]; omega
  rw [this]
  exact Src.of_blk (Blk.new w 5 _)
theorem base_alloc {w : World} {b : Nat} (h : b ≤ w.heap.size) (o : Obj) : b ≤ (w.alloc o).heap.size := Nat.le_trans h (by simp)

set_option maxHeartbeats 1000000 in
theorem short_any (v : Value) (l s : List UInt8) (base : Nat) (w : World) (hown : Ob w base v l) (hbase : base ≤ w.heap.size) (hl : l.length ≤ 1099511627776) (hs : s.length < 256) :
    Calls Tryz.prog 177 #[v, .string (tstr s)] w (Wr w base v (l ++ Pl.short s)) := by
  have hz := tstr_size s
  obtain ⟨n, hn⟩ : ∃ n, s.length = n := ⟨_, rfl⟩
  have hc : IntKind.u8.wrap (n : Int) = n := by rw [IntKind.wrap_u8]; omega
  have hn' : n < 256 := by omega
  have h1 := Lib.hid (hown.alloc (.cells #[.int .u8 (n : Int)] 5))
  have h2 := Lib.hid (src_one w n hn')
  have h3 := Lib.hid (base_alloc hbase (.cells #[.int .u8 (n : Int)] 5))
  have h4 := Lib.hid ((Mv.refl w v).alloc (.cells #[.int .u8 (n : Int)] 5))
  have hsh : Hid (Pl.short s = UInt8.ofNat n :: s) := by rw [Hid, ← hn]; rfl
  have hl1 := Lib.hid (show l.length + 1 ≤ 70368744177664 by omega)
  have hl2 : Hid ((l ++ [UInt8.ofNat n]).length + s.length ≤ 70368744177664) := by rw [Hid, List.length_append, List.length_singleton]; omega
  rw [hn] at hz
  clear hn hs
  go_enter Tryz.func177, Tryz.ntmps177
  go_wp2_with (first
    | (at_builtin
       refine wpList_ob rfl (.tmp 5) (.tmp 9) rfl rfl h1.out (some ⟨w.heap.size, 0, none⟩) 1 1 [UInt8.ofNat n] rfl rfl h2.out hl1.out h3.out ?_
       intro v2 w2 o2 m2
       have o2 := Lib.hid o2
       have m2 := Lib.hid m2)
    | (at_builtin
       refine wpList_obs rfl (.tmp 10) (.tmp 11) rfl rfl o2.out s rfl hl2.out (Nat.le_trans h3.out m2.out.1.size) ?_
       intro v3 w3 o3 m3
       have o3 := Lib.hid o3
       have m3 := Lib.hid m3)
    | fail)
  go_ret
  exact ⟨_, rfl, by rw [hsh.out, show l ++ UInt8.ofNat n :: s = (l ++ [UInt8.ofNat n]) ++ s by simp]; exact o3.out, (h4.out.trans m2.out).trans m3.out⟩
end Go.Proofs.YtljmklohgpaopaaGreatDoor
