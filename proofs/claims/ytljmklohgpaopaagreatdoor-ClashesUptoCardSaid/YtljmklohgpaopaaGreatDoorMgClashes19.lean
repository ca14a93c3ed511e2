/- The chain's apart. The chain's blocks: what its walk needs. -/
import Derived.Test.YtljmklohgpaopaaGreatDoorMgClashes18
set_option linter.unusedVariables false
set_option linter.unusedSimpArgs false

namespace Go.Proofs.YtljmklohgpaopaaGreatDoor
open Go.RowKit

theorem ttexts_pos : ∀ (n : Nat) (ls : List (List UInt8)), ls.length = n → ∀ l ∈ Pl.ttexts ls, 0 < l.length := by
  intro n
  induction n using Nat.strongRecOn with
  | _ n ih =>
    intro ls hn l hl
    rcases Nat.lt_or_ge ls.length 2 with h2 | h2
    · match ls, h2 with
      | [], _ => rw [Pl.ttexts_nil] at hl; cases hl
      | [x], _ =>
        rw [Pl.ttexts_one] at hl
        simp at hl
        subst hl
        simp
    · rw [Pl.ttexts_many ls h2] at hl
      have hk1 := Pl.half_pos ls.length
      have hk2 := Pl.half_lt h2
      rcases List.mem_cons.1 hl with rfl | hl
      · simp
      · rcases List.mem_append.1 hl with hl | hl
        · exact ih (ls.take (Pl.half ls.length)).length (by rw [List.length_take]; omega) _ rfl l hl
        · exact ih (ls.drop (Pl.half ls.length)).length (by rw [List.length_drop]; omega) _ rfl l hl
theorem ttexts_short : ∀ (n : Nat) (ls : List (List UInt8)), ls.length = n → (∀ l ∈ ls, l.length ≤ 5000) → ∀ l ∈ Pl.ttexts ls, l.length ≤ 1000000 := by
  intro n
  induction n using Nat.strongRecOn with
  | _ n ih =>
    intro ls hn hs l hl
    rcases Nat.lt_or_ge ls.length 2 with h2 | h2
    · match ls, h2 with
      | [], _ => rw [Pl.ttexts_nil] at hl; cases hl
      | [x], _ =>
        rw [Pl.ttexts_one] at hl
        simp at hl
        subst hl
        have := hs x (by simp)
        simp
        omega
    · rw [Pl.ttexts_many ls h2] at hl
      have hk1 := Pl.half_pos ls.length
      have hk2 := Pl.half_lt h2
      rcases List.mem_cons.1 hl with rfl | hl
      · simp [Pl.be_length]
      · rcases List.mem_append.1 hl with hl | hl
        · exact ih (ls.take (Pl.half ls.length)).length (by rw [List.length_take]; omega) _ rfl (fun x hx => hs x (List.mem_of_mem_take hx)) l hl
        · exact ih (ls.drop (Pl.half ls.length)).length (by rw [List.length_drop]; omega) _ rfl (fun x hx => hs x (List.mem_of_mem_drop hx)) l hl
def ApPost (w : World) (o : Option (List UInt8 × List UInt8)) (e : Ending) (w' : World) : Prop :=
  ∃ xv yv, e = .returned (.tuple #[xv, yv, .bool o.isSome]) ∧ Kept w.heap.size w' xv (o.map Prod.fst) ∧ Kept w.heap.size w' yv (o.map Prod.snd) ∧ Below w.heap.size w w'
set_option maxHeartbeats 2000000 in
set_option maxRecDepth 100000 in
theorem apart_any (b1 off1 cap1 b2 off2 cap2 n m : Nat) (ls ms : List (List UInt8)) (w : World) (h1 : BR w (· < w.heap.size) (some ⟨b1, off1, none⟩) ls) (h2 : BR w (· < w.heap.size) (some ⟨b2, off2, none⟩) ms) (hn : ls.length = n) (hm : ms.length = m)
    (hn0 : 1 ≤ n) (hn1 : n ≤ 16) (hm1 : m ≤ 16) (hc1 : n ≤ cap1) (hc2 : m ≤ cap2) (hs1 : ∀ l ∈ ls, l.length ≤ 5000) (hs2 : ∀ l ∈ ms, l.length ≤ 5000) :
    Calls Tryz.prog 109 #[.slice (some ⟨b1, off1, none⟩) n cap1, .slice (some ⟨b2, off2, none⟩) m cap2] w (ApPost w (Pl.parts (Pl.ttexts ls) (Pl.ttexts ms))) := by
  have hmf : ∀ (fn : Fn) (first cap : Array Value) (w : World), (Instr.makeFunc fn first cap).run Tryz.prog w = .ok (.func fn first cap) w := fun _ _ _ _ => rfl
  obtain ⟨g7, hg7⟩ : ∃ g, w.heap.size = g := ⟨_, rfl⟩
  obtain ⟨wa, hwa⟩ : ∃ wa, w.alloc (.cells #[.slice none 0 0] 23) = wa := ⟨_, rfl⟩
  have hba : Below w.heap.size w wa := by rw [← hwa]; exact (Below.refl _ _).alloc (Nat.le_refl _) _
  have K7 : Blk wa g7 23 [.slice none 0 0] := by rw [← hwa, ← hg7]; exact Blk.new w 23 _
  have hsa : wa.heap.size = g7 + 1 := by rw [← hwa, ← hg7]; simp
  rw [hg7] at h1 h2 hba
  have T1 := texts_call (taker1 g7) (· < g7) (fun _ h => h) n ls [] b1 off1 cap1 wa (by omega) ⟨_, K7, OL.nil _ _⟩ (by omega) (h1.keepB hba (fun _ h => h)) (by omega) (by omega) (fun l hl => by have := hs1 l hl; omega) (by simp; omega)
  rw [hn, List.nil_append] at T1
  have T1 := Lib.hid T1
  have HBA := Lib.hid hba
  have H2 := Lib.hid h2
  have HN := Lib.hid hn
  have HM := Lib.hid hm
  have HS1 := Lib.hid hs1
  have HS2 := Lib.hid hs2
  have hlen := Lib.hid (Pl.ttexts_length n ls hn hn0)
  clear h1 h2 K7 hn hm hs1 hs2 hba
  go_enter Tryz.func109, Tryz.ntmps109
  go_wp2_with fail
  refine T1.out.mono ?_
  rintro e w1 ⟨rfl, ⟨v, K1, O1⟩, B1⟩
  obtain ⟨A1, c1, rfl, hcc1, hbr1⟩ := O1.br
  obtain ⟨n1, hn1'⟩ : ∃ k, (Pl.ttexts ls).length = k := ⟨_, rfl⟩
  rw [hn1'] at hcc1 K1
  have hnn : n1 ≤ 31 := by have := hlen.out; omega
  have hs1 : g7 + 1 ≤ w1.heap.size := K1.lt
  obtain ⟨g8, hg8⟩ : ∃ g, w1.heap.size = g := ⟨_, rfl⟩
  obtain ⟨wb, hwb⟩ : ∃ wb, ((w1.alloc (.cells #[.int .i64 0] 3)).alloc (.cells #[.slice none 0 0] 25)).alloc (.cells #[.slice none 0 0] 25) = wb := ⟨_, rfl⟩
  have hbb : Below w1.heap.size w1 wb := by rw [← hwb]; exact (((Below.refl _ _).alloc (Nat.le_refl _) _).alloc (by simp) _).alloc (by simp; omega) _
  have K8 : Blk wb g8 3 [.int .i64 0] := by rw [← hwb, ← hg8]; exact ((Blk.new w1 3 _).alloc _).alloc _
  have K9 : Blk wb (g8 + 1) 25 [.slice none 0 0] := by rw [← hwb, ← hg8]; exact (Blk.newAt _ 25 _ _ (by simp)).alloc _
  have K10 : Blk wb (g8 + 1 + 1) 25 [.slice none 0 0] := by rw [← hwb, ← hg8]; exact Blk.newAt _ 25 _ _ (by simp)
  have hsb : wb.heap.size = g8 + 3 := by rw [← hwb, ← hg8]; simp
  have hJ : J2 g7 g8 (g8 + 1) (g8 + 1 + 1) n1 c1 A1 (Pl.ttexts ls) wb [] := by
    refine ⟨K1.below hbb (by omega), (hbr1.only (Only.of_below hbb (fun _ => False)) (fun _ _ h => h)).mono (fun b hb => ⟨by have := hb.1; omega, by have := hb.2; omega⟩), K8, _, _, K9, K10, ?_, ?_⟩
    · cases Pl.ttexts ls <;> rfl
    · cases Pl.ttexts ls <;> rfl
  have B2 := Lib.hid ((HBA.out.trans B1).trans (hbb.mono (by omega)))
  have T2 := texts_call (taker2 g7 g8 (g8 + 1) (g8 + 1 + 1) n1 c1 A1 (Pl.ttexts ls) hn1' hcc1 (by omega) (by omega) (by omega) (by omega) (ttexts_pos _ _ rfl) (ttexts_short _ _ rfl HS1.out)) (· < g7) (fun b hb => by have : b < g7 := hb; omega) m ms [] b2 off2 cap2 wb (by have := HM.out; omega) hJ (by omega) (H2.out.keepB B2.out (fun _ h => h)) (by have := HM.out; omega) (by have := HM.out; omega) (fun l hl => by have := HS2.out l hl; omega) (by have := HM.out; simp; omega)
  rw [HM.out, List.nil_append] at T2
  have T2 := Lib.hid T2
  have HG8 := Lib.hid hg8
  clear hbb K8 K9 K10 hsb hJ K1 O1 B1 hbr1 hn1' hcc1 hsa
  go_wp2_with fail
  refine T2.out.mono ?_
  rintro e w2 ⟨rfl, ⟨_, _, _, xv, yv, K9, K10, hx, hy⟩, B3⟩
  have c9 := K9.cell 0
  have c10 := K10.cell 0
  simp only [List.getElem?_cons_zero] at c9 c10
  have B4 := Lib.hid (B2.out.trans (B3.mono (by omega)))
  obtain ⟨o, ho⟩ : ∃ o, Pl.parts (Pl.ttexts ls) (Pl.ttexts ms) = o := ⟨_, rfl⟩
  have HO := Lib.hid ho
  rw [ho] at hx hy
  have HX := Lib.hid hx
  have HY := Lib.hid hy
  have HSS := Lib.hid (And.intro c9 c10)
  have hneq : ∀ (W : World) (a : Option Addr) (n c : Nat), (binOp .neq 25 (.slice a n c) (.slice none 0 0)).run Tryz.prog W = .ok (.bool (!a.isNone)) W := fun W a n c => run_neq_slice_nil_any W 25 5 a n c 0 0 Tryz.underlying25
  clear K9 K10 B3 T1 T2 ho
  have hfin : ApPost w o (.returned (.tuple #[xv, yv, .bool o.isSome])) w2.drew := ⟨xv, yv, rfl, by rw [hg7]; exact HX.out, by rw [hg7]; exact HY.out, by rw [hg7]; exact B4.out.drew⟩
  have HFIN := Lib.hid hfin
  clear hx hy hfin
  cases o with
  | none =>
    obtain rfl : xv = _ := HX.out
    go_wp2_with fail
    go_region_held3 (fun W : World => W.cell? ⟨g8 + 1, 0, none⟩ = some (.slice none 0 0) ∧ W.cell? ⟨g8 + 1 + 1, 0, none⟩ = some yv) (exact HSS.out) (fail)
    go_wp2_with fail
    go_ret3
    rw [HO.out]
    exact HFIN.out
  | some z =>
    obtain ⟨xb, xo, xn, xc, rfl, _⟩ := id HX.out
    go_wp2_with fail
    go_region_held3 (fun W : World => W.cell? ⟨g8 + 1, 0, none⟩ = some (.slice (some ⟨xb, xo, none⟩) xn xc) ∧ W.cell? ⟨g8 + 1 + 1, 0, none⟩ = some yv) (exact HSS.out) (fail)
    go_wp2_with fail
    go_ret3
    rw [HO.out]
    exact HFIN.out
end Go.Proofs.YtljmklohgpaopaaGreatDoor

namespace Go.Proofs.YtljmklohgpaopaaGreatDoor
open Go.RowKit

/-- R, and no block of X is led to. -/
def RX {α : Type} (X : Nat → Prop) (R : World → (Nat → Prop) → List Value → α → Prop) (w : World) (P : Nat → Prop) (c : List Value) (x : α) : Prop := R w (fun b => P b ∧ ¬ X b) c x
theorem RX.fr {α : Type} {X : Nat → Prop} {R : World → (Nat → Prop) → List Value → α → Prop} (fr : Fr R) : Fr (RX X R) := fun F P P' w w' c x h ho hF hP =>
  fr F _ _ w w' c x h ho (fun b hb => hF b hb.1) (fun b hb => ⟨hP b hb.1, hb.2⟩)
/-- A list, and another value's own block is none of its. -/
def OLx {α : Type} (e : TypeId) (s : Nat) (R : World → (Nat → Prop) → List Value → α → Prop) (t : Value) (w : World) (base : Nat) (v : Value) (xs : List α) : Prop :=
  OL e s (RX (fun b => t.ownBlock = some b) R) w base v xs ∧ ∀ g, v.ownBlock = some g → t.ownBlock ≠ some g
section
variable {α : Type} {e : TypeId} {s : Nat} {R : World → (Nat → Prop) → List Value → α → Prop} {w w' : World} {base : Nat} {v t t' : Value} {xs : List α}
theorem OLx.nil (t : Value) (w : World) (base : Nat) : OLx e s R t w base (.slice none 0 0) [] := ⟨OL.nil _ _, fun g h => by cases h⟩
theorem OLx.ol (fr : Fr R) (h : OLx e s R t w base v xs) : OL e s R w base v xs := by
  obtain ⟨⟨cs, h1, h2⟩, _⟩ := h
  exact ⟨cs, h1, h2.mono (fun _ _ _ h => fr (fun _ => False) _ _ w w _ _ h (Only.refl _ _) (fun _ _ h => h) (fun _ hb => hb.1))⟩
theorem OLx.only {F : Nat → Prop} (fr : Fr R) (h : OLx e s R t w base v xs) (ho : Only F w w') (hF : ∀ x, base ≤ x → x < w.heap.size → ¬ F x) : OLx e s R t w' base v xs := ⟨h.1.only (RX.fr fr) ho hF, h.2⟩
theorem OLx.below (fr : Fr R) (h : OLx e s R t w base v xs) (hb : Below w.heap.size w w') : OLx e s R t w' base v xs := ⟨h.1.below (RX.fr fr) hb, h.2⟩
/-- The other one is appended to. -/
theorem OLx.other (fr : Fr R) (h : OLx e s R t w base v xs) (m : Mv w w' t t') : OLx e s R t' w' base v xs := by
  obtain ⟨⟨cs, h1, h2⟩, h3⟩ := h
  refine ⟨⟨cs, m.only.own h1 h3, h2.mono (fun _ _ _ h => fr (fun k => t.ownBlock = some k) _ _ w w' _ _ h m.only (fun b hb => hb.2) (fun b hb => ⟨⟨hb.1.1, Nat.lt_of_lt_of_le hb.1.2.1 m.1.size, hb.1.2.2⟩, m.2 b hb.1.2.1 hb.2⟩))⟩, fun g hg => m.2 g (h1.lt g hg).2 (h3 g hg)⟩
end

/-- The transactions of payloads (where one cannot be read: none). -/
def txsOf (ls : List (List UInt8)) : List Pl.Txn := ls.map fun l => (Pl.readTx l).getD ⟨0, []⟩
def three (T : List Pl.Txn) (i : Nat) : List Pl.Txn := [Pl.txAt T (3 * i), Pl.txAt T (3 * i + 1), Pl.txAt T (3 * i + 2)]
theorem txAt_of {ls : List (List UInt8)} {k : Nat} {l : List UInt8} {t : Pl.Txn} (hl : ls[k]? = some l) (ht : Pl.readTx l = some t) : Pl.txAt (txsOf ls) k = t := by
  unfold Pl.txAt txsOf
  rw [List.getD_eq_getElem?_getD, List.getElem?_map, hl]
  simp [ht]
theorem three_at (T : List Pl.Txn) (i d : Nat) (hd : d < 3) : (three T i)[d]? = some (Pl.txAt T (3 * i + d)) := by
  match d, hd with
  | 0, _ => rfl
  | 1, _ => rfl
  | 2, _ => rfl
theorem ents_at (T : List Pl.Txn) (i d : Nat) (hd : d < 3) : (Pl.ents T i)[d]? = some (Pl.entryOf (3 * i + d + 1) (Pl.txAt T (3 * i + d))) := by
  match d, hd with
  | 0, _ => rfl
  | 1, _ => rfl
  | 2, _ => rfl
/-- The cells of a block. -/
def BkR (T : List Pl.Txn) (w : World) (P : Nat → Prop) (c : List Value) (i : Nat) : Prop :=
  ∃ Ah nh ch Ae ce At ct cs, c = [.slice Ah nh ch, .slice Ae 3 ce, .slice At 3 ct] ∧ nh = 13 ∧ 13 ≤ ch ∧ 3 ≤ ce ∧ 3 ≤ ct ∧ BytesAt w Ah (Pl.hdr T i) ∧ BR w P Ae (Pl.ents T i) ∧ Src w At cs ∧ RowsR 2 (TxR w P) cs (three T i) ∧
    (∀ p, Ah = some p → P p.block) ∧ ∀ p, At = some p → P p.block
theorem BkR.fr (T : List Pl.Txn) : Fr (BkR T) := by
  rintro F P P' w w' c x ⟨Ah, nh, ch, Ae, ce, At, ct, cs, h1, h2, h3, h4, h5, h6, h7, h8, h9, h10, h11⟩ ho hF hP
  exact ⟨Ah, nh, ch, Ae, ce, At, ct, cs, h1, h2, h3, h4, h5, ho.bytes h6 (fun p hp => hF _ (h10 p hp)), (h7.only ho hF).mono hP, ho.src h8 (fun p hp => hF _ (h11 p hp)), h9.mono (fun _ _ _ h => TxR.fr _ _ _ _ _ _ _ h ho hF hP), fun p hp => hP _ (h10 p hp), fun p hp => hP _ (h11 p hp)⟩
theorem Tryz.infoTx : (Tryz.prog.info? 210).map (fun i => (i.zero, i.size, i.bytes)) = some (some (.agg #[.int .i64 0, .slice none 0 0]), 2, 32) := by kernel_rfl
theorem Tryz.infoBlock : (Tryz.prog.info? 204).map (fun i => (i.zero, i.size, i.bytes)) = some (some (.agg #[.slice none 0 0, .slice none 0 0, .slice none 0 0]), 3, 72) := by kernel_rfl
end Go.Proofs.YtljmklohgpaopaaGreatDoor
