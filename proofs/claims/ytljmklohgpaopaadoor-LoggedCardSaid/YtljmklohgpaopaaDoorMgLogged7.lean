/- The walk of the log's appending closure. -/
import Derived.Test.YtljmklohgpaopaaDoorMgLogged6
import Derived.Deep.Cut
import Derived.Deep.CutRange
set_option linter.unusedVariables false
set_option linter.unusedSimpArgs false

namespace Go.Proofs.YtljmklohgpaopaaDoor
open Go.RowKit

def Append1Post (gl g : Nat) (v va : Value) (d : Pl.Dk) (rd : Int) (l : Pl.Lg) (p : List UInt8) (w : World) (e : Ending) (w' : World) : Prop :=
  ∃ va' vs', Ends (d.run (Pl.appendOps l p)).2 3 e ∧ LogSt w' gl g v va' vs' (d.run (Pl.appendOps l p)).1 rd (if (d.run (Pl.appendOps l p)).2 then Pl.appLg l p else l) ∧ Sep w va va' ∧ RSep w va vs' ∧ Only (lFa gl g v va) w w'
theorem Append1Post.stop {gl g : Nat} {v va : Value} {vs : List Value} {d dk : Pl.Dk} {rd : Int} {l : Pl.Lg} {p : List UInt8} {k : Nat} {w w' : World} (hrow : w.ownsRow 0 23 1 va l.all.length vs) (hk : k < Pl.chunks p.length) (h1 : 1 ≤ p.length) (h : d.run ((Pl.appendOps l p).take k) = (dk, true)) (hal : dk.alive = false)
    (hd : LogSt w' gl g v va vs (dk.change (Pl.appCh l p k)) rd l) (ho : Only (lFa gl g v va) w w') : Append1Post gl g v va d rd l p w (died 3) w' := by
  have := Pl.run_stop ((Pl.appendOps l p).drop (k + 1)) h hal (c := Pl.appCh l p k)
  rw [← Pl.appendOps_split l p k hk h1] at this
  unfold Append1Post
  rw [this]
  exact ⟨va, vs, Ends.no 3, hd, Sep.refl _ _, RSep.refl hrow, ho⟩
/-- A round's slice: what is left of the payload. -/
def LeftAt (w : World) (N : Nat → Prop) (x : Value) (l : List UInt8) : Prop := ∃ A cap, x = .slice A l.length cap ∧ l.length ≤ cap ∧ BytesAt w A l ∧ ∀ q, A = some q → N q.block

theorem own_one {w : World} {base n size : Nat} {e : TypeId} {v : Value} {xs : List Value} (h : w.ownsRow base e size v n xs) : v.oneCell' = true := by
  obtain ⟨A, cap, rfl, _⟩ := own_src h
  rfl
theorem append1_done {gl g : Nat} {v va v2 v4 : Value} {vs : List Value} {d dk : Pl.Dk} {rd : Int} {l : Pl.Lg} {p : List UInt8} {nx k : Nat} {w W1 W3 W4 : World} {B : Nat} (hBw : w.heap.size ≤ B) (hst : LogSt w gl g v va vs d rd l) (ho1 : Only (lF gl g v) w W1) (hkd : Kinds (dF g v) w [90, 92]) (hd1 : DiskAt W1 g v dk rd)
    (hcl4 : LogCells W4 gl g va { l with next := nx + k }) (hg4 : W3.grownBy W4 va.ownBlock) (hown4 : W4.ownsRow 0 23 1 v4 (l.all.length + 1) (vs ++ [v2])) (hown3 : W3.ownsRow B 5 1 v2 p.length (bv p)) (hb3 : Below W1.heap.size W1 W3) (hat : v4.ownBlock = va.ownBlock ∨ v4.ownBlock = some W3.heap.size)
    (hnx : l.next = nx) (hck : Pl.chunks p.length = k) (h1 : 1 ≤ p.length) (hr : d.run ((Pl.appendOps l p).take k) = (dk, true)) :
    Append1Post gl g v va d rd l p w (.returned (.tuple #[])) (W4.setCell ⟨gl, 5, none⟩ v4) := by
  subst hnx hck
  have hfull : (Pl.appendOps l p).take (Pl.chunks p.length) = Pl.appendOps l p := List.take_of_length_le (by rw [Pl.appendOps_length l p h1]; exact Nat.le_refl _)
  rw [hfull] at hr
  unfold Append1Post
  rw [hr]
  have hkl := lF_kinds hst.disk hst.cells
  have hrows1 := hst.rows.only ho1 hkl (by decide) (by decide)
  have hrows3 := hrows1.below hb3
  have hd3 := hd1.below hb3
  have hnot : ∀ (x : Nat) (t : TypeId), Typ W3 x t → t ≠ 23 → some x ≠ va.ownBlock := fun x t hx ht e => ht (hx.uniq (own_typ hrows3.own e.symm))
  have ho4 : Only (fun x => va.ownBlock = some x) W3 W4 := ⟨hg4.os, hg4.tape, hg4.output, hg4.size, fun x hx hn => hg4.block x hx (fun e => hn e.symm)⟩
  have hkv : Kinds (fun x => va.ownBlock = some x) W3 [23] := fun x hx => ⟨_, by simp, own_typ hrows3.own hx⟩
  have hd4 := hd3.onlyT ho4 hkv (by decide) (by decide)
  have ho5 : Only (· = gl) W4 (W4.setCell ⟨gl, 5, none⟩ v4) := (Only.refl (· = gl) W4).setCell (p := ⟨gl, 5, none⟩) (.inl rfl) _
  have hk5 : Kinds (· = gl) W4 [125] := by
    rintro x rfl
    exact ⟨_, by simp, hcl4.blk.typ⟩
  have hv2 : W3.ownsRow 0 5 1 v2 p.length (bv p) := by
    exact own_low hown3 (Nat.zero_le _)
  refine ⟨v4, vs ++ [v2], Ends.good 3, ⟨hd4.onlyT ho5 hk5 (by decide) (by decide), ⟨hcl4.blk.set_ 5 v4, hcl4.small⟩, ⟨?_, ?_⟩⟩, ?_, ?_, ?_⟩
  · have : (l.all ++ [p]).length = l.all.length + 1 := by simp
    show (W4.setCell ⟨gl, 5, none⟩ v4).ownsRow 0 _ 1 v4 (l.all ++ [p]).length (vs ++ [v2])
    rw [this]
    exact ho5.own_ hk5 hown4 (by decide)
  · intro i u x hu hx
    have hvl : vs.length = l.all.length := by simpa using hst.rows.own.1
    change (l.all ++ [p])[i]? = some x at hx
    rcases Nat.lt_or_ge i l.all.length with h' | h'
    · rw [List.getElem?_append_left (by omega)] at hu
      rw [List.getElem?_append_left h'] at hx
      exact ho5.own_ hk5 (ho4.own_ hkv (hrows3.each i u x hu hx) (by decide)) (by decide)
    · have hi : i = l.all.length := by
        have := (List.getElem?_eq_some_iff.1 hx).1
        simp at this
        omega
      subst hi
      rw [List.getElem?_append_right (Nat.le_refl _), Nat.sub_self] at hx
      rw [← hvl, List.getElem?_append_right (Nat.le_refl _), Nat.sub_self] at hu
      simp at hu hx
      subst hu hx
      exact ho5.own_ hk5 (ho4.own_ hkv hv2 (by decide)) (by decide)
  · intro b hb
    rcases hat with e | e
    · exact .inl (by rw [← e]; exact hb)
    · right
      rw [e] at hb
      have h1 := ho1.size
      have h2 := hb3.size
      have : W3.heap.size = b := by simpa using hb
      omega
  · intro u hu y hy hl n' vs2 h2
    rw [own_uniq h2 hst.rows.own]
    rcases List.mem_append.1 hu with hm | hm
    · exact hm
    · rw [List.mem_singleton] at hm
      subst hm
      have := (hown3.lt y hy).1
      omega
  · have h6 := (ho1.mono (fun _ _ h => (.inl h : lFa gl g v va _))).below hb3
    have h7 := h6.trans ho4 (fun _ _ h => .inr h)
    exact h7.trans ho5 (fun _ _ h => .inl (.inr h))

set_option maxHeartbeats 4000000 in
set_option maxRecDepth 100000 in
theorem append1_any (gl g bp bl bc : Nat) (v va : Value) (vs : List Value) (d : Pl.Dk) (rd : Int) (l : Pl.Lg) (p : List UInt8) (A : Option Addr) (cap : Nat) (w : World) (h : LogSt w gl g v va vs d rd l)
    (hP : Blk w bp 23 [.slice A p.length cap]) (hL : Blk w bl 39 [.pointer (some ⟨gl, 0, none⟩)]) (hC : Blk w bc 3 [.int .i64 (Pl.chunks p.length : Nat)])
    (hpva : va.ownBlock ≠ some bp) (hb : BytesAt w A p) (hA : ∀ q, A = some q → q.block < w.heap.size ∧ ¬ lFa gl g v va q.block) (hcap : p.length ≤ cap) (h1 : 1 ≤ p.length) (h2 : p.length ≤ 2000) (hroom : l.next + Pl.chunks p.length ≤ l.data) (hfit : l.first + 2 + l.data ≤ d.secs.length) (hrows : l.all.length ≤ 5000) :
    Calls Tryd.prog 96 #[.pointer (some ⟨bp, 0, none⟩), .pointer (some ⟨bl, 0, none⟩), .pointer (some ⟨bc, 0, none⟩)] w (Append1Post gl g v va d rd l p w) := by
  have HST := Lib.hid h
  have HKD := Lib.hid h.disk.kinds
  have hsm := h.cells.small
  have HP := Lib.hid hP
  have HL := Lib.hid hL
  have HC := Lib.hid hC
  have HBY := Lib.hid hb
  have HA := Lib.hid hA
  obtain ⟨a0, a1, a2, a3, a4, a5, a6, b0, b1, b2, b3, b4, b5, b6⟩ := facts7 h.cells.blk
  obtain ⟨cP, _⟩ := facts1 hP
  obtain ⟨cL, _⟩ := facts1 hL
  obtain ⟨nx, hnx⟩ : ∃ nx, l.next = nx := ⟨_, rfl⟩
  obtain ⟨ck, hck⟩ : ∃ ck, Pl.chunks p.length = ck := ⟨_, rfl⟩
  rw [hnx] at a4 hroom
  rw [hck] at hroom
  have HNX := Lib.hid hnx
  have HCK := Lib.hid hck
  have hsz := HST.out.cells.blk.lt
  clear h hP hL hC hb hA hnx hck
  go_enter Tryd.func96, Tryd.ntmps96
  go_wp2_with fail
  clear a0 a1 a2 a3 a4 a5 a6 b0 b1 b2 b3 b4 b5 b6 cP cL
  go_loopw [3, 4] (fun x i W => ∃ (k : Nat) (dk : Pl.Dk), k ≤ ck ∧ i = .int .i64 ((nx + k : Nat) : Int) ∧ Hid (LeftAt W (fun b => b < w.heap.size ∧ ¬ lFa gl g v va b) x (p.drop (240 * k))) ∧ Hid (d.run ((Pl.appendOps l p).take k) = (dk, true)) ∧ Hid (DiskAt W g v dk rd) ∧ Hid (Only (dF g v) w W)) (fun _ i _ => nx + ck - (intOf i).toNat)
  case atStart => exact ⟨0, d, Nat.zero_le _, by simp, ⟨A, cap, rfl, hcap, HBY.out, fun q hq => HA.out q hq⟩, rfl, HST.out.disk, Only.refl _ _⟩
  case round =>
    obtain ⟨k, dk, hk, rfl, HLF, HR, HDk, HO⟩ := hrel
    have HCL := Lib.hid (HST.out.cells.only HO.out HKD.out (by decide))
    have HBL := Lib.hid (HO.out.blk_ HKD.out HL.out (by decide))
    have HBC := Lib.hid (HO.out.blk_ HKD.out HC.out (by decide))
    obtain ⟨a0, a1, a2, a3, a4, a5, a6, b0, b1, b2, b3, b4, b5, b6⟩ := facts7 HCL.out.blk
    obtain ⟨cL, _⟩ := facts1 HBL.out
    obtain ⟨cC, _⟩ := facts1 HBC.out
    rw [HNX.out] at a4
    rw [HCK.out] at cC
    have hwn : IntKind.i64.wrap ((nx : Int) + ck) = (nx : Int) + ck := IntWalk.i64_in _ (by omega)
    have hn0 : (0 : Int) ≤ (nx : Int) + ck := by omega
    clear b0 b1 b2 b3 b4 b5 b6 a1 a2 a5 a6
    by_cases hkc : k < ck
    · have hlt : ((nx + k : Nat) : Int) < (nx : Int) + ck := by omega
      obtain ⟨A2, cap2, rfl, hc2, hb2, hq2⟩ := HLF.out
      have hrl : (p.drop (240 * k)).length = p.length - 240 * k := List.length_drop
      obtain ⟨rest, hrest⟩ : ∃ rest, p.drop (240 * k) = rest := ⟨_, rfl⟩
      have hm0 : 240 * k < p.length := Pl.chunk_lt (by rw [HCK.out]; exact hkc)
      rw [hrest] at hrl hc2 hb2 ⊢
      have hch : Pl.appCh l p k = .wr (l.at_ (nx + k)) (Pl.pieceText l.epoch (nx + k) (decide (240 < rest.length)) (rest.take 240)) := by
        unfold Pl.appCh
        rw [hrest, HNX.out, hrl]
      have HCH := Lib.hid hch
      obtain ⟨m, hm⟩ : ∃ m, rest.length = m := ⟨_, rfl⟩
      rw [hm] at hrl hc2 ⊢
      have hmm : 1 ≤ m ∧ m ≤ 2000 := by omega
      have HB2 := Lib.hid hb2
      have HQ2 := Lib.hid hq2
      have HM := Lib.hid hm
      have HREST := Lib.hid hrest
      have HC2 := Lib.hid hc2
      clear hrl hrest hm0 hch hb2 hq2 hm hc2
      obtain ⟨cl, hcl⟩ : ∃ cl, min 240 m = cl := ⟨_, rfl⟩
      have hclm : 1 ≤ cl ∧ cl ≤ 240 ∧ cl ≤ m ∧ (m < 240 → cl = m) ∧ (240 ≤ m → cl = 240) := by omega
      have HCLM := Lib.hid hclm
      clear hcl hclm
      go_wp2_with fail
      go_quiet (fail)
      have hbq : Below wr.heap.size wr (wr.drewN nq) := below_drewN (Below.refl _ _) nq
      have HBQ := Lib.hid hbq
      have HCL0 := Lib.hid (HCL.out.below hbq)
      have HBL0 := Lib.hid (HBL.out.below hbq HBL.out.lt)
      have HDK0 := Lib.hid (HDk.out.below hbq)
      have HB20 := Lib.hid (HB2.out.keep hbq)
      obtain ⟨W0, hW0⟩ : ∃ W0, wr.drewN nq = W0 := ⟨_, rfl⟩
      rw [hW0] at HBQ HCL0 HBL0 HDK0 HB20 ⊢
      clear hbq hW0
      go_upto_region 4 with fail
      go_cut [5] from 14 to 66 (fun s5 wx => s5 = .int .i64 (cl : Nat) ∧ W0 = wx)
      case first =>
        obtain ⟨x1, x2, x3, x4, x5⟩ := HCLM.out
        rcases Nat.lt_trichotomy m 240 with hlt | heq | hgt
        · have q1 : (m : Int) < 240 := by omega
          have q2 : ¬ (240 : Int) < m := by omega
          have q3 : ¬ (240 : Int) ≤ m := by omega
          have q4 : (m : Int) ≤ 240 := by omega
          obtain rfl := x4 hlt
          go_wp2_with fail
          go_meet
          case rel => exact ⟨rfl, rfl⟩
        · subst heq
          obtain rfl := x5 (Nat.le_refl _)
          go_wp2_with fail
          go_meet
          case rel => exact ⟨rfl, rfl⟩
        · have q1 : ¬ (m : Int) < 240 := by omega
          have q2 : (240 : Int) < m := by omega
          have q3 : (240 : Int) ≤ m := by omega
          have q4 : ¬ (m : Int) ≤ 240 := by omega
          obtain rfl := x5 (by omega)
          go_wp2_with fail
          go_meet
          case rel => exact ⟨rfl, rfl⟩
      case rest =>
      obtain ⟨rfl, rfl⟩ := hcut
      obtain ⟨a0, a1, a2, a3, a4, a5, a6, b0, b1, b2, b3, b4, b5, b6⟩ := facts7 HCL0.out.blk
      obtain ⟨cL, _⟩ := facts1 HBL0.out
      rw [HNX.out] at a4
      clear a1 a2 a5 a6 b0 b1 b2 b3 b4 b5 b6 cC
      go_upto_region 6 with fail
      obtain ⟨b, hb⟩ : ∃ b, W0.heap.size = b := ⟨_, rfl⟩
      obtain ⟨W1, hW1⟩ : ∃ W1, W0.alloc (.cells #[.pointer none, .slice none 0 0] 170) = W1 := ⟨_, rfl⟩
      have hbd : BdAt W1 b b false [] := ⟨Nat.le_refl _, .slice none 0 0, by rw [← hW1]; exact Blk.newAt _ _ _ _ hb.symm, World.ownsRow_nil _ _ _ _⟩
      have hb1 : Below W0.heap.size W0 W1 := by rw [← hW1]; exact (Below.refl _ _).alloc (Nat.le_refl _) _
      have hs1 : W1.heap.size = b + 1 := by rw [← hW1, ← hb]; simp
      rw [hb, hW1]
      have HB1 := Lib.hid hb1
      have HSB := Lib.hid hb
      have HBD := Lib.hid hbd
      have HS1 := Lib.hid hs1
      have HCL1 := Lib.hid (HCL0.out.below hb1)
      have HBL1 := Lib.hid (HBL0.out.below hb1 HBL0.out.lt)
      have HDK1 := Lib.hid (HDK0.out.below hb1)
      have HB21 := Lib.hid (HB20.out.keep hb1)
      clear a0 a3 a4 cL hb hW1 hbd hb1 hs1
      obtain ⟨a0, a1, a2, a3, a4, a5, a6, b0, b1, b2, b3, b4, b5, b6⟩ := facts7 HCL1.out.blk
      obtain ⟨cL, _⟩ := facts1 HBL1.out
      rw [HNX.out] at a4
      clear a1 a2 a5 a6 b0 b1 b2 b3 b4 b5 b6
      have hm := run_mark (P := Tryd.prog) W1 23 5 #[.int .u8 76] 1 Tryd.underlying23 Tryd.underlying5 rfl
      have hrd : Ready (W1.alloc (.cells #[.int .u8 76] 5 (1, 2))) W1.heap.size 5 1 (.slice (some ⟨W1.heap.size, 0, none⟩) 1 1) 1 (bv [76]) := by
        refine .inr ⟨rfl, _, _, rfl, .inr ⟨_, _, rfl, fun j u hu => ?_⟩⟩
        rw [Nat.zero_add, cell_of_row _ _ _ _ _ _ (heap_alloc_new W1 _)]
        simpa [bv] using hu
      have HRD := Lib.hid hrd
      have hbel := (Below.refl W1.heap.size W1).alloc (Nat.le_refl _) (.cells #[.int .u8 76] 5 (1, 2))
      have HBE2 := Lib.hid hbel
      have hsz2 := hbel.size
      obtain ⟨_, _, _, e3, _⟩ := facts7 (HCL1.out.below hbel).blk
      obtain ⟨eL, _⟩ := facts1 (HBL1.out.below hbel HBL1.out.lt)
      clear hrd hbel a0 a3 a4 cL
      go_wp2_with fail
      refine (put_any (.slice (some ⟨W1.heap.size, 0, none⟩) 1 1) 1 [76] l.epoch 8 W1.heap.size _ HRD.out HBE2.out.size hsm.2.2 (by omega) (by omega) (by omega)).mono ?_
      rintro e W3 ⟨v3, rfl, hown3, hb3, _⟩
      have HO3 := Lib.hid hown3
      have HBE3 := Lib.hid (HBE2.out.trans (hb3.mono (Nat.le_refl _)))
      have hwi : IntKind.u64.wrap ((nx + k : Nat) : Int) = ((nx + k : Nat) : Int) := IntWalk.u64_in _ (by omega)
      have hwi' : IntKind.u64.wrap ((nx : Int) + k) = ((nx + k : Nat) : Int) := by rw [← hwi]; congr 1
      clear hm hown3 hb3 e3 eL
      go_wp2_with fail
      refine (put_any v3 9 _ (nx + k) 4 W1.heap.size _ (.own HO3.out) HBE3.out.size (by omega) (by omega) (by omega) (by omega)).mono ?_
      rintro e W4 ⟨v4, rfl, hown4, hb4, _⟩
      have HO4 := Lib.hid hown4
      have HBE4 := Lib.hid (HBE3.out.trans (hb4.mono (Nat.le_refl _)))
      clear hown4 hb4 hwi hwi'
      obtain ⟨mb, hmb⟩ : ∃ mb : Bool, decide (240 < m) = mb := ⟨_, rfl⟩
      have HMB := Lib.hid hmb
      obtain ⟨mi, hmi⟩ : ∃ mi : Nat, (if mb then 1 else 0) = mi := ⟨_, rfl⟩
      have HMI := Lib.hid hmi
      clear hmi hmb
      go_upto_if 41 with fail
      go_cut [8] from 14 to 66 (fun s8 wx => s8 = .int .u8 (mi : Nat) ∧ W4 = wx)
      case first =>
        obtain ⟨x1, x2, x3, x4, x5⟩ := HCLM.out
        by_cases hbig : 240 < m
        · have q1 : ((cl : Int) == (m : Int)) = false := by rw [x5 (by omega)]; simp; omega
          have q2 : mi = 1 := by rw [← HMI.out, ← HMB.out, decide_eq_true hbig]; rfl
          subst q2
          go_wp2_with fail
          go_meet
          case rel => exact ⟨rfl, rfl⟩
        · have q0 : cl = m := by
            rcases Nat.lt_or_ge m 240 with h' | h'
            · exact x4 h'
            · rw [x5 h']; omega
          have q1 : ((cl : Int) == (m : Int)) = true := by rw [q0]; simp
          have q2 : mi = 0 := by rw [← HMI.out, ← HMB.out, decide_eq_false hbig]; rfl
          subst q2
          clear q0
          go_wp2_with fail
          go_meet
          case rel => exact ⟨rfl, rfl⟩
      case rest =>
      obtain ⟨rfl, rfl⟩ := hcut
      obtain ⟨i0, hi, hz0, hz1, hz2⟩ := info_parts Tryd.infoByte
      have hsz4 := HBE4.out.size
      have HO4a := Lib.hid (HO4.out.alloc (.cells #[.int .u8 (mi : Nat)] 5))
      have HSR := Lib.hid (Src.of_blk (Blk.new W4 5 [.int .u8 (mi : Nat)]))
      have HBE4a := Lib.hid (HBE4.out.alloc hsz4 (.cells #[.int .u8 (mi : Nat)] 5))
      have hbs4 : W1.heap.size ≤ (W4.alloc (.cells #[.int .u8 (mi : Nat)] 5)).heap.size := HBE4a.out.size
      have hone : Hid (∀ u ∈ [Value.int .u8 (mi : Nat)], u.oneCell' = true) := by
        intro u hu
        simp at hu
        subst hu
        rfl
      have hr1 := Lib.hid (byte_room (n := 13) (m := 1) (by omega))
      have h63 : Hid (13 + 1 ≤ maxLen) := by rw [Hid]; simp only [maxLen]; omega
      go_wp2_with (at_builtin
                   refine wpList_append_src _ rfl (.tmp 42) (.tmp 44) 23 rfl W1.heap.size 5 i0 (.int .u8 0) 1 1 Tryd.underlying23 hi hz0 hz1 hz2 rfl (by decide) v4 13 _ rfl HO4a.out (some ⟨W4.heap.size, 0, none⟩) 1 1 [.int .u8 (mi : Nat)] rfl rfl HSR.out hone.out h63.out hr1.out hbs4 ?_
                   intro v5 W5 hown5 hgrow5 hat5
                   have HO5 := Lib.hid hown5
                   have HBE5 := Lib.hid (HBE4a.out.grown hgrow5 hbs4 (fun k hk => (HO4a.out.lt k hk).1))
                   clear hown5 hgrow5 hat5)
      have hwc : IntKind.u64.wrap (cl : Int) = (cl : Int) := IntWalk.u64_in _ (by have := HCLM.out; omega)
      have hcl18 : cl < 18446744073709551616 := by have := HCLM.out; omega
      rw [hwc]
      refine (put_any v5 14 ([76] ++ Pl.be 8 l.epoch ++ Pl.be 4 (nx + k) ++ [if mb then 1 else 0]) cl 2 W1.heap.size _ (.own ?_) HBE5.out.size hcl18 (by omega) (by omega) (by omega)).mono ?_
      · have := HO5.out
        rw [← HMI.out] at this
        rw [bv_append _ [_]]
        cases mb <;> exact this
      rintro e W6 ⟨v6, rfl, hown6, hb6, _⟩
      have hown6' : W6.ownsRow W1.heap.size 5 1 v6 16 (bv (Pl.pieceHead l.epoch (nx + k) mb cl)) := by
        have : [76] ++ Pl.be 8 l.epoch ++ Pl.be 4 (nx + k) ++ [if mb then 1 else 0] ++ Pl.be 2 cl = Pl.pieceHead l.epoch (nx + k) mb cl := by simp [Pl.pieceHead]
        rw [← this]
        exact hown6
      obtain ⟨A6, cap6, rfl, _, hsrc6, hA6⟩ := own_src hown6'
      have hbe6 := HBE5.out.trans (hb6.mono (Nat.le_refl _))
      have hs1 := HS1.out
      have HW := Lib.hid (bWrite_any b b false [] (Pl.pieceHead l.epoch (nx + k) mb cl) A6 cap6 W6 (HBD.out.below hbe6) hsrc6 (fun q hq e => by
        have := (hown6'.lt _ (hA6 q hq)).1
        omega) (by rw [Pl.pieceHead_length]; simp) (by have := hbe6.size; omega))
      rw [Pl.pieceHead_length] at HW
      have HX6 := Lib.hid (HB1.out.trans (hbe6.mono (by rw [HSB.out]; omega)))
      clear hown6 hb6 hown6' hsrc6 hA6 hbe6 hwc hone hz0 hz1 hz2 hi
      go_wp2_with fail
      refine HW.out.mono ?_
      rintro e W7 ⟨rfl, hbd7, hb7⟩
      have HBD7 := Lib.hid hbd7
      have hx7 := HX6.out.trans (by rw [HSB.out]; exact hb7)
      have HX7 := Lib.hid hx7
      have hcl2 : (rest.take 240).length = cl := by
        rw [List.length_take, HM.out]
        have := HCLM.out
        omega
      have HCL2 := Lib.hid hcl2
      have hb2 := HB20.out.keep hx7
      have HW2 := Lib.hid (bWrite_any b b true ([] ++ Pl.pieceHead l.epoch (nx + k) mb cl) (rest.take 240) A2 cap2 W7 hbd7 (hb2.head 240).src (fun q hq e => by
        have h5 := (HQ2.out q hq).1
        have h6 := HO.out.size
        have h7 := HBQ.out.size
        have h8 := HSB.out
        omega) (by rw [List.nil_append, Pl.pieceHead_length, hcl2]; have := HCLM.out; omega) (by have := hx7.size; rw [HSB.out] at this; exact this))
      rw [hcl2] at HW2
      have hclm1 : cl ≤ m := by have := HCLM.out; omega
      have hmc : m ≤ cap2 := HC2.out
      have hclm2 : cl ≤ cap2 := by omega
      clear hbd7 hb7 hx7 hcl2 hb2
      go_wp2_with fail
      refine HW2.out.mono ?_
      rintro e W8 ⟨rfl, hbd8, hb8⟩
      have hx8 := HX7.out.trans (by rw [HSB.out]; exact hb8)
      have hpt : [] ++ Pl.pieceHead l.epoch (nx + k) mb cl ++ rest.take 240 = Pl.pieceText l.epoch (nx + k) mb (rest.take 240) := by rw [Pl.pieceText_head, HCL2.out, List.nil_append]
      rw [hpt] at hbd8
      have HBD8 := Lib.hid hbd8
      have HX8 := Lib.hid hx8
      have HCL8 := Lib.hid (HCL0.out.below hx8)
      have HBL8 := Lib.hid (HBL0.out.below hx8 HBL0.out.lt)
      have HDK8 := Lib.hid (HDK0.out.below hx8)
      have hptl : (Pl.pieceText l.epoch (nx + k) mb (rest.take 240)).length = 16 + cl := by rw [Pl.pieceText_head, List.length_append, Pl.pieceHead_length, HCL2.out]
      have HPTL := Lib.hid hptl
      obtain ⟨pt, hpte⟩ : ∃ pt, Pl.pieceText l.epoch (nx + k) mb (rest.take 240) = pt := ⟨_, rfl⟩
      have HPT := Lib.hid hpte
      rw [hpte] at HBD8 HPTL
      clear hbd8 hb8 hx8 hpt hptl hpte
      obtain ⟨a0, a1, a2, a3, a4, a5, a6, b0, b1, b2, b3, b4, b5, b6⟩ := facts7 HCL8.out.blk
      obtain ⟨cL, _⟩ := facts1 HBL8.out
      have s0 := Lib.hid (And.intro cL a0)
      clear a0 a1 a2 a3 a4 a5 a6 b0 b1 b2 b3 b4 b5 b6 cL
      go_wp2_with fail
      refine wp_region_held_drew (S := fun W : World => W.cell? ⟨bl, 0, none⟩ = some (.pointer (some ⟨gl, 0, none⟩)) ∧ W.cell? ⟨gl, 0, none⟩ = some (.pointer (some ⟨g, 0, none⟩))) (by kernel_rfl) s0.out (fun hHeld => ?_)
      refine wpAnyH_take (i := 0) (oi := _) (v := ?_) rfl (by kernel_rfl) (by kernel_rfl) (by kernel_rfl) (fun _ _ _ h => h) (Or.inl ⟨by rfl, ?_⟩) (by assumption) ?_
      rotate_left
      · intro W hSw
        (try dsimp only at hSw)
        go_simp
        rfl
      (try simp only [Act.put, List.getElem_toArray, List.getElem_cons_succ, List.getElem_cons_zero, List.setIfInBounds_toArray, List.set_cons_zero, List.set_cons_succ])
      refine wpAnyH_take (i := 1) (oi := _) (v := ?_) rfl (by kernel_rfl) (by kernel_rfl) (by kernel_rfl) (fun _ _ _ h => h) (Or.inl ⟨by rfl, ?_⟩) (by assumption) ?_
      rotate_left
      · intro W hSw
        (try dsimp only at hSw)
        go_simp
        rfl
      (try simp only [Act.put, List.getElem_toArray, List.getElem_cons_succ, List.getElem_cons_zero, List.setIfInBounds_toArray, List.set_cons_zero, List.set_cons_succ])
      refine wpAnyH_take (i := 2) (oi := _) (v := ?_) rfl (by kernel_rfl) (by kernel_rfl) (by kernel_rfl) (fun _ _ _ h => h) (Or.inl ⟨by rfl, ?_⟩) (by assumption) ?_
      rotate_left
      · intro W hSw
        (try dsimp only at hSw)
        go_simp
        rfl
      (try simp only [Act.put, List.getElem_toArray, List.getElem_cons_succ, List.getElem_cons_zero, List.setIfInBounds_toArray, List.set_cons_zero, List.set_cons_succ])
      refine wpAnyH_take (i := 3) (oi := _) (v := ?_) rfl (by kernel_rfl) (by kernel_rfl) (by kernel_rfl) (fun _ _ _ h => h) (Or.inl ⟨by rfl, ?_⟩) (by assumption) ?_
      rotate_left
      · intro W hSw
        (try dsimp only at hSw)
        go_simp
        rfl
      (try simp only [Act.put, List.getElem_toArray, List.getElem_cons_succ, List.getElem_cons_zero, List.setIfInBounds_toArray, List.set_cons_zero, List.set_cons_succ])
      refine wpAnyH_take (i := 4) (oi := _) (v := ?_) rfl (by kernel_rfl) (by kernel_rfl) (by kernel_rfl) (fun _ _ _ h => h) (Or.inl ⟨by rfl, ?_⟩) (by assumption) ?_
      rotate_left
      · intro W hSw
        (try dsimp only at hSw)
        go_simp
        rfl
      (try simp only [Act.put, List.getElem_toArray, List.getElem_cons_succ, List.getElem_cons_zero, List.setIfInBounds_toArray, List.set_cons_zero, List.set_cons_succ])
      refine wpAnyH_take (i := 5) (oi := _) (v := ?_) rfl (by kernel_rfl) (by kernel_rfl) (by kernel_rfl) (fun _ _ _ h => h) (Or.inl ⟨by rfl, ?_⟩) (by assumption) ?_
      rotate_left
      · intro W hSw
        (try dsimp only at hSw)
        go_simp
        rfl
      (try simp only [Act.put, List.getElem_toArray, List.getElem_cons_succ, List.getElem_cons_zero, List.setIfInBounds_toArray, List.set_cons_zero, List.set_cons_succ])
      refine wpAnyH_ready (rs := [6]) (by kernel_rfl) (by simp) ?_
      refine AllReadyH.cons (o := _) rfl (fun K hK => ?_) AllReadyH.nil
      go_simp
      have hnk : nx + k ≤ 4096 := by omega
      have hcast : ((nx : Int) + k) = ((nx + k : Nat) : Int) := by omega
      rw [hcast]
      refine (sector_any gl g va l (nx + k) _ (HCL8.out.below (w' := W8.drew) ((Below.refl _ _).drew)) hnk).mono ?_
      rintro e w' ⟨rfl, rfl⟩
      clear hcast
      go_wp2_with fail
      refine hK.out _ _ s0.out (fun hHeld6 => ?_)
      clear hK K
      (try simp only [Act.put, List.getElem_toArray, List.getElem_cons_succ, List.getElem_cons_zero, List.setIfInBounds_toArray, List.set_cons_zero, List.set_cons_succ])
      refine wpAnyH_ready (rs := [7]) (by kernel_rfl) (by simp) ?_
      refine AllReadyH.cons (o := _) rfl (fun K hK => ?_) AllReadyH.nil
      go_simp
      refine (bString_any b b true pt _ (HBD8.out.below (w' := W8.drew) ((Below.refl _ _).drew)) (by intro h; have h3 := HPTL.out; rw [h, List.length_nil] at h3; omega) (by have := HPTL.out; have := HCLM.out; omega)).mono ?_
      rintro e W9 ⟨rfl, hb9⟩
      have hx9 := HX8.out.trans (by rw [HSB.out]; exact undrew hb9)
      have HX9 := Lib.hid hx9
      have HCL9 := Lib.hid (HCL0.out.below hx9)
      have HBL9 := Lib.hid (HBL0.out.below hx9 HBL0.out.lt)
      have HDK9 := Lib.hid (HDK0.out.below hx9)
      clear hb9 hx9
      go_wp2_with fail
      refine hK.out _ _ ⟨HBL9.out.cell 0, HCL9.out.blk.cell 0⟩ (fun hHeld7 => ?_)
      clear hK K
      (try simp only [Act.put, List.getElem_toArray, List.getElem_cons_succ, List.getElem_cons_zero, List.setIfInBounds_toArray, List.set_cons_zero, List.set_cons_succ])
      refine wpAnyH_ready (rs := [8]) (by kernel_rfl) (by simp) ?_
      refine AllReadyH.cons (o := _) rfl (fun K hK => ?_) AllReadyH.nil
      go_simp
      have hdl : dk.secs.length = d.secs.length := by
        have := Pl.run_length d ((Pl.appendOps l p).take k)
        rw [HR.out] at this
        exact this
      have hin : l.first + 2 + (nx + k) < dk.secs.length := by rw [hdl]; omega
      have hpt2 : pt.length ≤ 256 := by have := HPTL.out; have := HCLM.out; omega
      have hcast2 : ((l.first : Int) + 2 + ((nx : Int) + k)) = ((l.first + 2 + (nx + k) : Nat) : Int) := by omega
      rw [hcast2]
      clear hcast2
      have hch : Pl.appCh l p k = .wr (l.first + 2 + (nx + k)) pt := by rw [HCH.out, ← HPT.out, HM.out, HMB.out]; rfl
      have HCHH := Lib.hid hch
      clear hch
      refine (wwrite_any g v dk rd (l.first + 2 + (nx + k)) pt _ HDK9.out hin hpt2).mono ?_
      rintro e WA ⟨⟨hal, rfl⟩ | ⟨hal, rfl⟩, hA1, hoA⟩
      · have HDKA := Lib.hid hA1
        have hoo := ((HO.out.below HBQ.out).below HX9.out).trans' hoA
        have HOA := Lib.hid hoo
        have RA := Lib.hid (Pl.run_go (c := .wr (l.first + 2 + (nx + k)) pt) HR.out hal)
        have hbA := hoA.bytes (HB20.out.keep HX9.out) (fun q hq e => (HQ2.out q hq).2 (.inl (.inl e)))
        have HBA := Lib.hid hbA
        have cDA := (hoA.blk_ HDK9.out.kinds HCL9.out.blk (by decide)).cell 0
        have cLA := (hoA.blk_ HDK9.out.kinds HBL9.out (by decide)).cell 0
        clear hA1 hoA hoo hal hbA
        go_wp2_with fail
        refine hK.out _ _ ⟨cLA, cDA⟩ (fun _ => ?_)
        refine wpAnyH_done (by kernel_rfl) ?_ _
        have hsl := run_slice_from WA A2 m cap2 cl cl rfl hclm1
        obtain ⟨A3, hA3⟩ : ∃ A3, (if cap2 = cl then A2 else A2.map (·.add cl)) = A3 := ⟨_, rfl⟩
        rw [hA3] at hsl
        have HA3 := Lib.hid hA3
        clear hK K hHeld hHeld6 hHeld7 hA3
        go_wp2_with fail
        have hd : p.drop (240 * (k + 1)) = rest.drop cl := by
          rw [show 240 * (k + 1) = 240 * k + 240 by omega, ← List.drop_drop, HREST.out]
          have := HCLM.out
          have := HM.out
          rcases Nat.lt_or_ge m 240 with h' | h'
          · rw [List.drop_eq_nil_of_le (by omega), List.drop_eq_nil_of_le (by omega)]
          · rw [show cl = 240 by omega]
        have hdl : (rest.drop cl).length = m - cl := by rw [List.length_drop, HM.out]
        refine ⟨⟨k + 1, _, by omega, by congr 1, ?_, ?_, HDKA.out, HOA.out⟩, by simp [intOf]; omega⟩
        · rw [Hid, hd]
          refine ⟨A3, cap2 - cl, by rw [hdl], by rw [hdl]; omega, ?_, ?_⟩
          · rw [← HA3.out]
            exact HBA.out.cut cl cap2 (by rw [HM.out]; exact hclm1) (by rw [HM.out]; exact hmc)
          · intro q hq
            rw [← HA3.out] at hq
            split at hq
            · exact HQ2.out q hq
            · obtain ⟨q', hq', rfl⟩ := Option.map_eq_some_iff.1 hq
              have := HQ2.out q' hq'
              rw [show (q'.add cl).block = q'.block by unfold Addr.add; split <;> rfl]
              exact this
        · rw [Hid, Pl.appendOps_succ l p k (by rw [HCK.out]; exact hkc) h1, HCHH.out]
          exact RA.out
      · have HDKA := Lib.hid hA1
        have hoo := ((HO.out.below HBQ.out).below HX9.out).trans' hoA
        have HOA := Lib.hid hoo
        have HAL := Lib.hid hal
        have HCLA := Lib.hid (HCL9.out.only hoA HDK9.out.kinds (by decide))
        clear hA1 hoA hoo hal
        unfold died
        go_wp2_with fail
        refine ⟨rfl, Append1Post.stop HST.out.rows.own (by rw [HCK.out]; exact hkc) h1 HR.out HAL.out ⟨?_, HCLA.out, HST.out.rows.only HOA.out HKD.out (by decide) (by decide)⟩ (HOA.out.mono (fun _ _ h => .inl (.inl h)))⟩
        rw [HCHH.out]
        exact HDKA.out
    · obtain rfl : k = ck := by omega
      have hlt : ¬ ((nx + k : Nat) : Int) < (nx : Int) + k := by omega
      go_wp2_with fail
      go_quiet (fail)
      have hbq : Below wr.heap.size wr (wr.drewN nq) := below_drewN (Below.refl _ _) nq
      have HBQ := Lib.hid hbq
      have HCL0 := Lib.hid (HCL.out.below hbq)
      have HBL0 := Lib.hid (HBL.out.below hbq HBL.out.lt)
      have HBC0 := Lib.hid (HBC.out.below hbq HBC.out.lt)
      have HDK0 := Lib.hid (HDk.out.below hbq)
      have HO0 := Lib.hid (HO.out.below hbq)
      obtain ⟨W0, hW0⟩ : ∃ W0, wr.drewN nq = W0 := ⟨_, rfl⟩
      rw [hW0] at HBQ HCL0 HBL0 HBC0 HDK0 HO0 ⊢
      clear hbq hW0 a0 a3 a4 cL cC
      obtain ⟨a0, a1, a2, a3, a4, a5, a6, b0, b1, b2, b3, b4, b5, b6⟩ := facts7 HCL0.out.blk
      obtain ⟨cL, _⟩ := facts1 HBL0.out
      obtain ⟨cC, _⟩ := facts1 HBC0.out
      rw [HNX.out] at a4
      rw [HCK.out] at cC
      clear a0 a1 a2 a3 a6 b0 b1 b2 b3 b5 b6
      go_wp2_with fail
      go_region
      -- the end
      have hcs : ((nx : Int) + k) = ((nx + k : Nat) : Int) := by omega
      rw [hcs]
      have ho1 : Only (· = gl) W0 (W0.setCell ⟨gl, 4, none⟩ (.int .i64 ((nx + k : Nat) : Int))).drew := ((Only.refl (· = gl) W0).setCell (p := ⟨gl, 4, none⟩) (.inl rfl) _).drew
      have hk1 : Kinds (· = gl) W0 [125] := by
        rintro x rfl
        exact ⟨_, by simp, HCL0.out.blk.typ⟩
      have HCL1 : Hid (LogCells (W0.setCell ⟨gl, 4, none⟩ (.int .i64 ((nx + k : Nat) : Int))).drew gl g va { l with next := nx + k }) := ⟨(HCL0.out.blk.set_ 4 _).drew, hsm.1, hroom, hsm.2.2⟩
      have HBL1 := Lib.hid (ho1.blk_ hk1 HBL0.out (by decide))
      have HDK1 := Lib.hid (HDK0.out.onlyT ho1 hk1 (by decide) (by decide))
      have HO1 := Lib.hid ((HO0.out.mono (fun _ _ h => (.inl h : lF gl g v _))).trans ho1 (fun _ _ h => .inr h))
      have HKL := Lib.hid (lF_kinds HST.out.disk HST.out.cells)
      have HBP1 := Lib.hid (HO1.out.blk HP.out (fun hx => by
        obtain ⟨t, h5, h6⟩ := HKL.out bp hx
        have := h6.uniq HP.out.typ
        subst this
        revert h5
        decide))
      have HBY1 := Lib.hid ((HO1.out.bytes HBY.out (fun q hq hx => (HA.out q hq).2 (.inl hx))).src)
      have HVA1 := Lib.hid ((HST.out.rows.only HO1.out HKL.out (by decide) (by decide)).own)
      obtain ⟨W1, hW1⟩ : ∃ W1, (W0.setCell ⟨gl, 4, none⟩ (.int .i64 ((nx + k : Nat) : Int))).drew = W1 := ⟨_, rfl⟩
      rw [hW1] at HCL1 HBL1 HDK1 HO1 HBP1 HBY1 HVA1 ⊢
      clear ho1 hk1 hW1 a4 a5 b4 cL cC hcs
      obtain ⟨_, _, _, _, _, e5, _⟩ := facts7 HCL1.out.blk
      have hS1 := Lib.hid (⟨HBL1.out.cell 0, HBP1.out.cell 0⟩ : W1.cell? ⟨bl, 0, none⟩ = some (.pointer (some ⟨gl, 0, none⟩)) ∧ W1.cell? ⟨bp, 0, none⟩ = some (.slice A p.length cap))
      obtain ⟨i0, hi, hz0, hz1, hz2⟩ := info_parts Tryd.infoByte
      obtain ⟨j0, hj, hy0, hy1, hy2⟩ := info_parts Tryd.infoSlice
      have h63a : Hid (0 + p.length ≤ maxLen) := by rw [Hid]; simp only [maxLen]; omega
      have hra := Lib.hid (byte_room (n := 0) (m := p.length) (by omega))
      have h63b : Hid (l.all.length + 1 ≤ maxLen) := by rw [Hid]; simp only [maxLen]; omega
      have hrb := Lib.hid (slice_room (n := l.all.length) (m := 1) (by omega))
      go_wp2_with fail
      refine wp_region_held_drew (S := fun W : World => W.cell? ⟨bl, 0, none⟩ = some (.pointer (some ⟨gl, 0, none⟩)) ∧ W.cell? ⟨bp, 0, none⟩ = some (.slice A p.length cap)) (by kernel_rfl) hS1.out (fun hHeld => ?_)
      refine wpAnyH_take (i := 0) (oi := _) (v := ?_) rfl (by kernel_rfl) (by kernel_rfl) (by kernel_rfl) (fun _ _ _ h => h) (Or.inl ⟨by rfl, ?_⟩) (by assumption) ?_
      rotate_left
      · intro W hSw
        (try dsimp only at hSw)
        go_simp
        rfl
      (try simp only [Act.put, List.getElem_toArray, List.getElem_cons_succ, List.getElem_cons_zero, List.setIfInBounds_toArray, List.set_cons_zero, List.set_cons_succ])
      refine wpAnyH_take (i := 1) (oi := _) (v := ?_) rfl (by kernel_rfl) (by kernel_rfl) (by kernel_rfl) (fun _ _ _ h => h) (Or.inl ⟨by rfl, ?_⟩) (by assumption) ?_
      rotate_left
      · intro W hSw
        (try dsimp only at hSw)
        go_simp
        rfl
      (try simp only [Act.put, List.getElem_toArray, List.getElem_cons_succ, List.getElem_cons_zero, List.setIfInBounds_toArray, List.set_cons_zero, List.set_cons_succ])
      refine wpAnyH_take (i := 2) (oi := _) (v := ?_) rfl (by kernel_rfl) (by kernel_rfl) (by kernel_rfl) (fun _ _ _ h => h) (Or.inl ⟨by rfl, ?_⟩) (by assumption) ?_
      rotate_left
      · intro W hSw
        (try dsimp only at hSw)
        go_simp
        rfl
      (try simp only [Act.put, List.getElem_toArray, List.getElem_cons_succ, List.getElem_cons_zero, List.setIfInBounds_toArray, List.set_cons_zero, List.set_cons_succ])
      refine wpAnyH_take (i := 3) (oi := _) (v := ?_) rfl (by kernel_rfl) (by kernel_rfl) (by kernel_rfl) (fun _ _ _ h => h) (Or.inl ⟨by rfl, ?_⟩) (by assumption) ?_
      rotate_left
      · intro W hSw
        (try dsimp only at hSw)
        go_simp
        rfl
      (try simp only [Act.put, List.getElem_toArray, List.getElem_cons_succ, List.getElem_cons_zero, List.setIfInBounds_toArray, List.set_cons_zero, List.set_cons_succ])
      refine wpAnyH_take (i := 5) (oi := _) (v := ?_) rfl (by kernel_rfl) (by kernel_rfl) (by kernel_rfl) (fun _ _ _ h => h) (Or.inl ⟨by rfl, ?_⟩) (by assumption) ?_
      rotate_left
      · intro W hSw
        (try dsimp only at hSw)
        go_simp
        rfl
      (try simp only [Act.put, List.getElem_toArray, List.getElem_cons_succ, List.getElem_cons_zero, List.setIfInBounds_toArray, List.set_cons_zero, List.set_cons_succ])
      refine wpAnyH_ready (rs := [4, 6]) (by kernel_rfl) (by simp) ?_
      refine AllReadyH.cons (o := _) rfl (fun K hK => ?_) ?_
      · go_simp
        refine hK.out _ _ hS1.out (fun _ => ?_)
        clear hK K
        (try simp only [Act.put, List.getElem_toArray, List.getElem_cons_succ, List.getElem_cons_zero, List.setIfInBounds_toArray, List.set_cons_zero, List.set_cons_succ])
        refine wpAnyH_ready (rs := [6]) (by kernel_rfl) (by simp) ?_
        refine AllReadyH.cons (o := _) rfl (fun K hK => ?_) AllReadyH.nil
        refine step_append_src _ rfl (.const (.slice none 0 0)) (.tmp 80) 23 rfl W1.heap.size 5 i0 (.int .u8 0) 1 1 Tryd.underlying23 hi hz0 hz1 hz2 rfl (by decide) (.slice none 0 0) 0 [] rfl (World.ownsRow_nil _ _ _ _) A p.length cap (bv p) rfl (by simp) HBY1.out (bv_ones p) h63a.out hra.out (Nat.le_refl _) ?_
        intro v2 W2 hown2 hgrow2 hat2
        rw [Nat.zero_add, List.nil_append] at hown2
        obtain ⟨A5, cap5, rfl, _, _, _⟩ := own_src hown2
        have hb2 : Below W1.heap.size W1 W2 := ⟨hgrow2.os, hgrow2.tape, hgrow2.output, hgrow2.size, fun x hx => hgrow2.block x hx (fun e => by cases e)⟩
        have HB2 := Lib.hid hb2
        have HO2 := Lib.hid hown2
        obtain ⟨_, _, _, _, _, e5, _⟩ := facts7 (HCL1.out.below hb2).blk
        have hS2 := Lib.hid (⟨(HBL1.out.below hb2 HBL1.out.lt).cell 0, (HBP1.out.below hb2 HBP1.out.lt).cell 0⟩ : W2.cell? ⟨bl, 0, none⟩ = some (.pointer (some ⟨gl, 0, none⟩)) ∧ W2.cell? ⟨bp, 0, none⟩ = some (.slice A p.length cap))
        clear hown2 hgrow2 hat2 hb2
        refine hK.out _ _ hS2.out (fun _ => ?_)
        clear hK K
        (try simp only [Act.put, List.getElem_toArray, List.getElem_cons_succ, List.getElem_cons_zero, List.setIfInBounds_toArray, List.set_cons_zero, List.set_cons_succ])
        refine wpAnyH_ready (rs := [7]) (by kernel_rfl) (by simp) ?_
        refine AllReadyH.cons (o := _) rfl (fun K hK => ?_) AllReadyH.nil
        go_simp
        obtain ⟨W3, hW3⟩ : ∃ W3, W2.alloc (.cells #[.slice A5 p.length cap5] 23) = W3 := ⟨_, rfl⟩
        have hb3 : Below W2.heap.size W2 W3 := by rw [← hW3]; exact (Below.refl _ _).alloc (Nat.le_refl _) _
        have HB3 := Lib.hid (HB2.out.trans (hb3.mono HB2.out.size))
        have HSR3 : Hid (Src W3 (some ⟨W2.heap.size, 0, none⟩) [.slice A5 p.length cap5]) := by rw [Hid, ← hW3]; exact Src.of_blk (Blk.new W2 23 [.slice A5 p.length cap5])
        have HO3 := Lib.hid (own_below HO2.out hb3)
        have HVA3 := Lib.hid (own_below HVA1.out HB3.out)
        rw [hW3]
        obtain ⟨_, _, _, _, _, e5, _⟩ := facts7 (HCL1.out.below HB3.out).blk
        have hS3 := Lib.hid (⟨(HBL1.out.below HB3.out HBL1.out.lt).cell 0, (HBP1.out.below HB3.out HBP1.out.lt).cell 0⟩ : W3.cell? ⟨bl, 0, none⟩ = some (.pointer (some ⟨gl, 0, none⟩)) ∧ W3.cell? ⟨bp, 0, none⟩ = some (.slice A p.length cap))
        clear hb3 hW3
        refine hK.out _ _ hS3.out (fun _ => ?_)
        clear hK K
        (try simp only [Act.put, List.getElem_toArray, List.getElem_cons_succ, List.getElem_cons_zero, List.setIfInBounds_toArray, List.set_cons_zero, List.set_cons_succ])
        refine wpAnyH_ready (rs := [8]) (by kernel_rfl) (by simp) ?_
        refine AllReadyH.cons (o := _) rfl (fun K hK => ?_) AllReadyH.nil
        have hone : Hid (∀ u ∈ [Value.slice A5 p.length cap5], u.oneCell' = true) := by
          intro u hu
          simp at hu
          subst hu
          exact own_one HO3.out
        refine step_append_src _ rfl (.tmp 79) (.tmp 82) 46 rfl 0 23 j0 (.slice none 0 0) 1 24 Tryd.underlying46 hj hy0 hy1 hy2 rfl (by decide) va l.all.length vs rfl HVA3.out (some ⟨W2.heap.size, 0, none⟩) 1 1 [.slice A5 p.length cap5] rfl rfl HSR3.out hone.out h63b.out hrb.out (Nat.zero_le _) ?_
        intro v4 W4 hown4 hgrow4 hat4
        obtain ⟨A4, cap4, rfl, _, _, _⟩ := own_src hown4
        have hnv : ∀ (x : Nat) (t : TypeId) (cs : List Value), Blk W3 x t cs → t ≠ 23 → x ≠ x → False := fun _ _ _ _ _ h => h rfl
        have hvn : ∀ (x : Nat) (t : TypeId) (cs : List Value), Blk W3 x t cs → t ≠ 23 → some x ≠ va.ownBlock := fun x t cs h1 h2 e => h2 (h1.typ.uniq (own_typ HVA3.out e.symm))
        have HCL4 : Hid (LogCells W4 gl g va { l with next := nx + k }) := ⟨(HCL1.out.below HB3.out).blk.grown hgrow4 (hvn _ _ _ (HCL1.out.below HB3.out).blk (by decide)), HCL1.out.small⟩
        have HBL4 := Lib.hid ((HBL1.out.below HB3.out HBL1.out.lt).grown hgrow4 (hvn _ _ _ (HBL1.out.below HB3.out HBL1.out.lt) (by decide)))
        have HBP4 := Lib.hid ((HBP1.out.below HB3.out HBP1.out.lt).grown hgrow4 (fun e => hpva e.symm))
        have HG4 := Lib.hid hgrow4
        have HO4 := Lib.hid hown4
        have HAT4 := Lib.hid hat4
        have hS4 := Lib.hid (⟨HBL4.out.cell 0, HBP4.out.cell 0⟩ : W4.cell? ⟨bl, 0, none⟩ = some (.pointer (some ⟨gl, 0, none⟩)) ∧ W4.cell? ⟨bp, 0, none⟩ = some (.slice A p.length cap))
        obtain ⟨_, _, _, _, _, e5, _, _, _, _, _, _, g5, _⟩ := facts7 HCL4.out.blk
        clear hown4 hgrow4 hat4 hnv hvn
        refine hK.out _ _ hS4.out (fun _ => ?_)
        clear hK K
        (try simp only [Act.put, List.getElem_toArray, List.getElem_cons_succ, List.getElem_cons_zero, List.setIfInBounds_toArray, List.set_cons_zero, List.set_cons_succ])
        refine wpAnyH_take (i := 9) (oi := _) (v := ?_) rfl (by kernel_rfl) (by kernel_rfl) (by kernel_rfl) (fun _ _ _ h => h) (Or.inl ⟨by rfl, ?_⟩) (by assumption) ?_
        rotate_left
        · intro W hSw
          (try dsimp only at hSw)
          go_simp
          rfl
        (try simp only [Act.put, List.getElem_toArray, List.getElem_cons_succ, List.getElem_cons_zero, List.setIfInBounds_toArray, List.set_cons_zero, List.set_cons_succ])
        refine wpAnyH_take (i := 10) (oi := _) (v := ?_) rfl (by kernel_rfl) (by kernel_rfl) (by kernel_rfl) (fun _ _ _ h => h) (Or.inl ⟨by rfl, ?_⟩) (by assumption) ?_
        rotate_left
        · intro W hSw
          (try dsimp only at hSw)
          go_simp
          rfl
        (try simp only [Act.put, List.getElem_toArray, List.getElem_cons_succ, List.getElem_cons_zero, List.setIfInBounds_toArray, List.set_cons_zero, List.set_cons_succ])
        refine wpAnyH_ready (rs := [11]) (by kernel_rfl) (by simp) ?_
        refine AllReadyH.cons (o := _) rfl (fun K hK => ?_) AllReadyH.nil
        go_simp
        have hbg : gl ≠ bl := HCL4.out.blk.ne HBL4.out (by decide)
        have hpg : gl ≠ bp := HCL4.out.blk.ne HBP4.out (by decide)
        refine hK.out _ _ ⟨(HBL4.out.far (p := ⟨gl, 5, none⟩) (Ne.symm hbg) _).cell 0, (HBP4.out.far (p := ⟨gl, 5, none⟩) (Ne.symm hpg) _).cell 0⟩ (fun _ => ?_)
        refine wpAnyH_done (by kernel_rfl) ?_ _
        clear hK K
        go_wp2_with fail
        go_end0
        exact append1_done HO1.out.size HST.out HO1.out HKD.out HDK1.out HCL4.out HG4.out HO4.out HO3.out HB3.out HAT4.out HNX.out HCK.out h1 HR.out
      refine AllReadyH.cons (o := _) rfl (fun K hK => ?_) AllReadyH.nil
      refine step_append_src _ rfl (.const (.slice none 0 0)) (.tmp 80) 23 rfl W1.heap.size 5 i0 (.int .u8 0) 1 1 Tryd.underlying23 hi hz0 hz1 hz2 rfl (by decide) (.slice none 0 0) 0 [] rfl (World.ownsRow_nil _ _ _ _) A p.length cap (bv p) rfl (by simp) HBY1.out (bv_ones p) h63a.out hra.out (Nat.le_refl _) ?_
      intro v2 W2 hown2 hgrow2 hat2
      rw [Nat.zero_add, List.nil_append] at hown2
      obtain ⟨A5, cap5, rfl, _, _, _⟩ := own_src hown2
      have hb2 : Below W1.heap.size W1 W2 := ⟨hgrow2.os, hgrow2.tape, hgrow2.output, hgrow2.size, fun x hx => hgrow2.block x hx (fun e => by cases e)⟩
      have HB2 := Lib.hid hb2
      have HO2 := Lib.hid hown2
      obtain ⟨_, _, _, _, _, e5, _⟩ := facts7 (HCL1.out.below hb2).blk
      have hS2 := Lib.hid (⟨(HBL1.out.below hb2 HBL1.out.lt).cell 0, (HBP1.out.below hb2 HBP1.out.lt).cell 0⟩ : W2.cell? ⟨bl, 0, none⟩ = some (.pointer (some ⟨gl, 0, none⟩)) ∧ W2.cell? ⟨bp, 0, none⟩ = some (.slice A p.length cap))
      clear hown2 hgrow2 hat2 hb2
      refine hK.out _ _ hS2.out (fun _ => ?_)
      clear hK K
      (try simp only [Act.put, List.getElem_toArray, List.getElem_cons_succ, List.getElem_cons_zero, List.setIfInBounds_toArray, List.set_cons_zero, List.set_cons_succ])
      refine wpAnyH_ready (rs := [4, 7]) (by kernel_rfl) (by simp) ?_
      refine AllReadyH.cons (o := _) rfl (fun K hK => ?_) ?_
      · go_simp
        refine hK.out _ _ hS2.out (fun _ => ?_)
        clear hK K
        (try simp only [Act.put, List.getElem_toArray, List.getElem_cons_succ, List.getElem_cons_zero, List.setIfInBounds_toArray, List.set_cons_zero, List.set_cons_succ])
        refine wpAnyH_ready (rs := [7]) (by kernel_rfl) (by simp) ?_
        refine AllReadyH.cons (o := _) rfl (fun K hK => ?_) AllReadyH.nil
        go_simp
        obtain ⟨W3, hW3⟩ : ∃ W3, W2.alloc (.cells #[.slice A5 p.length cap5] 23) = W3 := ⟨_, rfl⟩
        have hb3 : Below W2.heap.size W2 W3 := by rw [← hW3]; exact (Below.refl _ _).alloc (Nat.le_refl _) _
        have HB3 := Lib.hid (HB2.out.trans (hb3.mono HB2.out.size))
        have HSR3 : Hid (Src W3 (some ⟨W2.heap.size, 0, none⟩) [.slice A5 p.length cap5]) := by rw [Hid, ← hW3]; exact Src.of_blk (Blk.new W2 23 [.slice A5 p.length cap5])
        have HO3 := Lib.hid (own_below HO2.out hb3)
        have HVA3 := Lib.hid (own_below HVA1.out HB3.out)
        rw [hW3]
        obtain ⟨_, _, _, _, _, e5, _⟩ := facts7 (HCL1.out.below HB3.out).blk
        have hS3 := Lib.hid (⟨(HBL1.out.below HB3.out HBL1.out.lt).cell 0, (HBP1.out.below HB3.out HBP1.out.lt).cell 0⟩ : W3.cell? ⟨bl, 0, none⟩ = some (.pointer (some ⟨gl, 0, none⟩)) ∧ W3.cell? ⟨bp, 0, none⟩ = some (.slice A p.length cap))
        clear hb3 hW3
        refine hK.out _ _ hS3.out (fun _ => ?_)
        clear hK K
        (try simp only [Act.put, List.getElem_toArray, List.getElem_cons_succ, List.getElem_cons_zero, List.setIfInBounds_toArray, List.set_cons_zero, List.set_cons_succ])
        refine wpAnyH_ready (rs := [8]) (by kernel_rfl) (by simp) ?_
        refine AllReadyH.cons (o := _) rfl (fun K hK => ?_) AllReadyH.nil
        have hone : Hid (∀ u ∈ [Value.slice A5 p.length cap5], u.oneCell' = true) := by
          intro u hu
          simp at hu
          subst hu
          exact own_one HO3.out
        refine step_append_src _ rfl (.tmp 79) (.tmp 82) 46 rfl 0 23 j0 (.slice none 0 0) 1 24 Tryd.underlying46 hj hy0 hy1 hy2 rfl (by decide) va l.all.length vs rfl HVA3.out (some ⟨W2.heap.size, 0, none⟩) 1 1 [.slice A5 p.length cap5] rfl rfl HSR3.out hone.out h63b.out hrb.out (Nat.zero_le _) ?_
        intro v4 W4 hown4 hgrow4 hat4
        obtain ⟨A4, cap4, rfl, _, _, _⟩ := own_src hown4
        have hnv : ∀ (x : Nat) (t : TypeId) (cs : List Value), Blk W3 x t cs → t ≠ 23 → x ≠ x → False := fun _ _ _ _ _ h => h rfl
        have hvn : ∀ (x : Nat) (t : TypeId) (cs : List Value), Blk W3 x t cs → t ≠ 23 → some x ≠ va.ownBlock := fun x t cs h1 h2 e => h2 (h1.typ.uniq (own_typ HVA3.out e.symm))
        have HCL4 : Hid (LogCells W4 gl g va { l with next := nx + k }) := ⟨(HCL1.out.below HB3.out).blk.grown hgrow4 (hvn _ _ _ (HCL1.out.below HB3.out).blk (by decide)), HCL1.out.small⟩
        have HBL4 := Lib.hid ((HBL1.out.below HB3.out HBL1.out.lt).grown hgrow4 (hvn _ _ _ (HBL1.out.below HB3.out HBL1.out.lt) (by decide)))
        have HBP4 := Lib.hid ((HBP1.out.below HB3.out HBP1.out.lt).grown hgrow4 (fun e => hpva e.symm))
        have HG4 := Lib.hid hgrow4
        have HO4 := Lib.hid hown4
        have HAT4 := Lib.hid hat4
        have hS4 := Lib.hid (⟨HBL4.out.cell 0, HBP4.out.cell 0⟩ : W4.cell? ⟨bl, 0, none⟩ = some (.pointer (some ⟨gl, 0, none⟩)) ∧ W4.cell? ⟨bp, 0, none⟩ = some (.slice A p.length cap))
        obtain ⟨_, _, _, _, _, e5, _, _, _, _, _, _, g5, _⟩ := facts7 HCL4.out.blk
        clear hown4 hgrow4 hat4 hnv hvn
        refine hK.out _ _ hS4.out (fun _ => ?_)
        clear hK K
        (try simp only [Act.put, List.getElem_toArray, List.getElem_cons_succ, List.getElem_cons_zero, List.setIfInBounds_toArray, List.set_cons_zero, List.set_cons_succ])
        refine wpAnyH_take (i := 9) (oi := _) (v := ?_) rfl (by kernel_rfl) (by kernel_rfl) (by kernel_rfl) (fun _ _ _ h => h) (Or.inl ⟨by rfl, ?_⟩) (by assumption) ?_
        rotate_left
        · intro W hSw
          (try dsimp only at hSw)
          go_simp
          rfl
        (try simp only [Act.put, List.getElem_toArray, List.getElem_cons_succ, List.getElem_cons_zero, List.setIfInBounds_toArray, List.set_cons_zero, List.set_cons_succ])
        refine wpAnyH_take (i := 10) (oi := _) (v := ?_) rfl (by kernel_rfl) (by kernel_rfl) (by kernel_rfl) (fun _ _ _ h => h) (Or.inl ⟨by rfl, ?_⟩) (by assumption) ?_
        rotate_left
        · intro W hSw
          (try dsimp only at hSw)
          go_simp
          rfl
        (try simp only [Act.put, List.getElem_toArray, List.getElem_cons_succ, List.getElem_cons_zero, List.setIfInBounds_toArray, List.set_cons_zero, List.set_cons_succ])
        refine wpAnyH_ready (rs := [11]) (by kernel_rfl) (by simp) ?_
        refine AllReadyH.cons (o := _) rfl (fun K hK => ?_) AllReadyH.nil
        go_simp
        have hbg : gl ≠ bl := HCL4.out.blk.ne HBL4.out (by decide)
        have hpg : gl ≠ bp := HCL4.out.blk.ne HBP4.out (by decide)
        refine hK.out _ _ ⟨(HBL4.out.far (p := ⟨gl, 5, none⟩) (Ne.symm hbg) _).cell 0, (HBP4.out.far (p := ⟨gl, 5, none⟩) (Ne.symm hpg) _).cell 0⟩ (fun _ => ?_)
        refine wpAnyH_done (by kernel_rfl) ?_ _
        clear hK K
        go_wp2_with fail
        go_end0
        exact append1_done HO1.out.size HST.out HO1.out HKD.out HDK1.out HCL4.out HG4.out HO4.out HO3.out HB3.out HAT4.out HNX.out HCK.out h1 HR.out
      refine AllReadyH.cons (o := _) rfl (fun K hK => ?_) AllReadyH.nil
      go_simp
      obtain ⟨W3, hW3⟩ : ∃ W3, W2.alloc (.cells #[.slice A5 p.length cap5] 23) = W3 := ⟨_, rfl⟩
      have hb3 : Below W2.heap.size W2 W3 := by rw [← hW3]; exact (Below.refl _ _).alloc (Nat.le_refl _) _
      have HB3 := Lib.hid (HB2.out.trans (hb3.mono HB2.out.size))
      have HSR3 : Hid (Src W3 (some ⟨W2.heap.size, 0, none⟩) [.slice A5 p.length cap5]) := by rw [Hid, ← hW3]; exact Src.of_blk (Blk.new W2 23 [.slice A5 p.length cap5])
      have HO3 := Lib.hid (own_below HO2.out hb3)
      have HVA3 := Lib.hid (own_below HVA1.out HB3.out)
      rw [hW3]
      obtain ⟨_, _, _, _, _, e5, _⟩ := facts7 (HCL1.out.below HB3.out).blk
      have hS3 := Lib.hid (⟨(HBL1.out.below HB3.out HBL1.out.lt).cell 0, (HBP1.out.below HB3.out HBP1.out.lt).cell 0⟩ : W3.cell? ⟨bl, 0, none⟩ = some (.pointer (some ⟨gl, 0, none⟩)) ∧ W3.cell? ⟨bp, 0, none⟩ = some (.slice A p.length cap))
      clear hb3 hW3
      refine hK.out _ _ hS3.out (fun _ => ?_)
      clear hK K
      (try simp only [Act.put, List.getElem_toArray, List.getElem_cons_succ, List.getElem_cons_zero, List.setIfInBounds_toArray, List.set_cons_zero, List.set_cons_succ])
      refine wpAnyH_ready (rs := [4]) (by kernel_rfl) (by simp) ?_
      refine AllReadyH.cons (o := _) rfl (fun K hK => ?_) AllReadyH.nil
      go_simp
      refine hK.out _ _ hS3.out (fun _ => ?_)
      clear hK K
      (try simp only [Act.put, List.getElem_toArray, List.getElem_cons_succ, List.getElem_cons_zero, List.setIfInBounds_toArray, List.set_cons_zero, List.set_cons_succ])
      refine wpAnyH_ready (rs := [8]) (by kernel_rfl) (by simp) ?_
      refine AllReadyH.cons (o := _) rfl (fun K hK => ?_) AllReadyH.nil
      have hone : Hid (∀ u ∈ [Value.slice A5 p.length cap5], u.oneCell' = true) := by
        intro u hu
        simp at hu
        subst hu
        exact own_one HO3.out
      refine step_append_src _ rfl (.tmp 79) (.tmp 82) 46 rfl 0 23 j0 (.slice none 0 0) 1 24 Tryd.underlying46 hj hy0 hy1 hy2 rfl (by decide) va l.all.length vs rfl HVA3.out (some ⟨W2.heap.size, 0, none⟩) 1 1 [.slice A5 p.length cap5] rfl rfl HSR3.out hone.out h63b.out hrb.out (Nat.zero_le _) ?_
      intro v4 W4 hown4 hgrow4 hat4
      obtain ⟨A4, cap4, rfl, _, _, _⟩ := own_src hown4
      have hnv : ∀ (x : Nat) (t : TypeId) (cs : List Value), Blk W3 x t cs → t ≠ 23 → x ≠ x → False := fun _ _ _ _ _ h => h rfl
      have hvn : ∀ (x : Nat) (t : TypeId) (cs : List Value), Blk W3 x t cs → t ≠ 23 → some x ≠ va.ownBlock := fun x t cs h1 h2 e => h2 (h1.typ.uniq (own_typ HVA3.out e.symm))
      have HCL4 : Hid (LogCells W4 gl g va { l with next := nx + k }) := ⟨(HCL1.out.below HB3.out).blk.grown hgrow4 (hvn _ _ _ (HCL1.out.below HB3.out).blk (by decide)), HCL1.out.small⟩
      have HBL4 := Lib.hid ((HBL1.out.below HB3.out HBL1.out.lt).grown hgrow4 (hvn _ _ _ (HBL1.out.below HB3.out HBL1.out.lt) (by decide)))
      have HBP4 := Lib.hid ((HBP1.out.below HB3.out HBP1.out.lt).grown hgrow4 (fun e => hpva e.symm))
      have HG4 := Lib.hid hgrow4
      have HO4 := Lib.hid hown4
      have HAT4 := Lib.hid hat4
      have hS4 := Lib.hid (⟨HBL4.out.cell 0, HBP4.out.cell 0⟩ : W4.cell? ⟨bl, 0, none⟩ = some (.pointer (some ⟨gl, 0, none⟩)) ∧ W4.cell? ⟨bp, 0, none⟩ = some (.slice A p.length cap))
      obtain ⟨_, _, _, _, _, e5, _, _, _, _, _, _, g5, _⟩ := facts7 HCL4.out.blk
      clear hown4 hgrow4 hat4 hnv hvn
      refine hK.out _ _ hS4.out (fun _ => ?_)
      clear hK K
      (try simp only [Act.put, List.getElem_toArray, List.getElem_cons_succ, List.getElem_cons_zero, List.setIfInBounds_toArray, List.set_cons_zero, List.set_cons_succ])
      refine wpAnyH_take (i := 9) (oi := _) (v := ?_) rfl (by kernel_rfl) (by kernel_rfl) (by kernel_rfl) (fun _ _ _ h => h) (Or.inl ⟨by rfl, ?_⟩) (by assumption) ?_
      rotate_left
      · intro W hSw
        (try dsimp only at hSw)
        go_simp
        rfl
      (try simp only [Act.put, List.getElem_toArray, List.getElem_cons_succ, List.getElem_cons_zero, List.setIfInBounds_toArray, List.set_cons_zero, List.set_cons_succ])
      refine wpAnyH_take (i := 10) (oi := _) (v := ?_) rfl (by kernel_rfl) (by kernel_rfl) (by kernel_rfl) (fun _ _ _ h => h) (Or.inl ⟨by rfl, ?_⟩) (by assumption) ?_
      rotate_left
      · intro W hSw
        (try dsimp only at hSw)
        go_simp
        rfl
      (try simp only [Act.put, List.getElem_toArray, List.getElem_cons_succ, List.getElem_cons_zero, List.setIfInBounds_toArray, List.set_cons_zero, List.set_cons_succ])
      refine wpAnyH_ready (rs := [11]) (by kernel_rfl) (by simp) ?_
      refine AllReadyH.cons (o := _) rfl (fun K hK => ?_) AllReadyH.nil
      go_simp
      have hbg : gl ≠ bl := HCL4.out.blk.ne HBL4.out (by decide)
      have hpg : gl ≠ bp := HCL4.out.blk.ne HBP4.out (by decide)
      refine hK.out _ _ ⟨(HBL4.out.far (p := ⟨gl, 5, none⟩) (Ne.symm hbg) _).cell 0, (HBP4.out.far (p := ⟨gl, 5, none⟩) (Ne.symm hpg) _).cell 0⟩ (fun _ => ?_)
      refine wpAnyH_done (by kernel_rfl) ?_ _
      clear hK K
      go_wp2_with fail
      go_end0
      exact append1_done HO1.out.size HST.out HO1.out HKD.out HDK1.out HCL4.out HG4.out HO4.out HO3.out HB3.out HAT4.out HNX.out HCK.out h1 HR.out
end Go.Proofs.YtljmklohgpaopaaDoor
