/- The codec's Tx.Texts. The walks of the chain's hashes and entry. The document's cursor: Number, take. The document's short, laid. -/
import Derived.Test.YtljmklohgpaopaaGreatDoorMgClashes10
import Derived.Test.YtljmklohgpaopaaGreatDoorMgClashes7
import Derived.Test.YtljmklohgpaopaaGreatDoorMgClashes3
import Derived.Test.YtljmklohgpaopaaGreatDoorMgClashes4
set_option linter.unusedVariables false
set_option linter.unusedSimpArgs false

namespace Go.Proofs.YtljmklohgpaopaaGreatDoor
open Go.RowKit

theorem encOp_len {o : Pl.Opn} (h : Pl.OpOk o) : (Pl.encOp o).length ≤ 5000 := by
  obtain ⟨hk, ht, hcl, hrl, hcb, hrb, h4⟩ := OpOk.b h
  have h1 := flat_len (f := Pl.encC) (m := 257) o.cols (fun x hx => encC_len (hcb x hx))
  have h2 := flat_len (f := Pl.encV) (m := 257) o.row (fun x hx => encV_len (hrb x hx))
  unfold Pl.encOp Pl.short
  simp only [List.length_cons, List.length_append]
  split
  · unfold Pl.encCols
    simp only [List.length_cons]
    omega
  · split
    · omega
    · unfold Pl.encRow
      simp only [List.length_cons]
      omega
def TextsPost (w : World) (ls : List (List UInt8)) (e : Ending) (w' : World) : Prop := ∃ v, e = .returned v ∧ BL w' w.heap.size v ls ∧ Below w.heap.size w w'
set_option maxHeartbeats 2000000 in
set_option maxRecDepth 100000 in
theorem texts_any (P : Nat → Prop) (c : List Value) (t : Pl.Txn) (w : World) (hR : TxR w P c t) (hP : ∀ b, P b → b < w.heap.size) (hok : ∀ o ∈ t.ops, Pl.OpOk o) (hl : t.ops.length ≤ 256) :
    Calls Tryz.prog 110 #[.agg c.toArray] w (TextsPost w (t.ops.map Pl.encOp)) := by
  obtain ⟨i0, hi0, hz0, hz1, hz2⟩ := info_parts Tryz.infoSlice
  obtain ⟨A, cap, cs, rfl, hcap, hs, hrows, hA⟩ := hR
  obtain ⟨time, ops⟩ := t
  dsimp only at hcap hrows hok hl ⊢
  obtain ⟨n, hn⟩ : ∃ n, ops.length = n := ⟨_, rfl⟩
  rw [hn] at hcap hl ⊢
  obtain ⟨wb, hwb⟩ : ∃ wb, w.alloc (.cells #[.int .i64 (sig time), .slice A n cap] 210) = wb := ⟨_, rfl⟩
  obtain ⟨gb, hgb⟩ : ∃ g, w.heap.size = g := ⟨_, rfl⟩
  have BB : Blk wb gb 210 [.int .i64 (sig time), .slice A n cap] := by rw [← hwb, ← hgb]; exact Blk.new w 210 _
  have hbb : Below w.heap.size w wb := by rw [← hwb]; exact (Below.refl _ _).alloc (Nat.le_refl _) _
  obtain ⟨c0, c1, _, _⟩ := facts2 BB
  have HN := Lib.hid hn
  have HS := Lib.hid hs
  have HRW := Lib.hid hrows
  have HOK := Lib.hid hok
  have HP := Lib.hid hP
  have HBB := Lib.hid hbb
  have HI := Lib.hid (And.intro hi0 (And.intro hz0 (And.intro hz1 hz2)))
  clear hn hs hrows hok hP hbb BB hi0 hz0 hz1 hz2
  go_enter Tryz.func110, Tryz.ntmps110
  go_wp2_with fail
  go_loopw [3, 9] (fun u i wr => ∃ k : Nat, k ≤ n ∧ i = .int .i64 (k : Int) ∧ Hid (BL wr w.heap.size u ((ops.take k).map Pl.encOp)) ∧ Hid (Below w.heap.size w wr)) (fun _ i _ => n - (intOf i).toNat)
  case atStart => exact ⟨0, Nat.zero_le _, rfl, OL.nil _ _, HBB.out⟩
  case round =>
    obtain ⟨k, hk, rfl, HO, HB⟩ := hrel
    by_cases hkn : k < n
    · have q1 : (k : Int) < (n : Int) := by omega
      obtain ⟨o, hc⟩ : ∃ c, ops[k]? = some c := ⟨_, List.getElem?_eq_getElem (by rw [HN.out]; exact hkn)⟩
      obtain ⟨c, hor, _, hcell⟩ := HRW.out.at_ hc
      have hok := HOK.out o (List.mem_of_getElem? hc)
      have hor2 := Lib.hid (hor.only (Only.of_below HB.out (fun _ => False)) (fun _ _ h => h))
      obtain ⟨Ac, cc, Ar, cr, rfl, _⟩ := hor
      have hsr := HS.out.below HB.out
      obtain ⟨b, off, rfl, g0⟩ := hsr.at_ _ _ (hcell 0 (by omega))
      have g1 := hsr.cell _ _ (hcell 1 (by omega))
      have g2 := hsr.cell _ _ (hcell 2 (by omega))
      have g3 := hsr.cell _ _ (hcell 3 (by omega))
      rw [← Nat.add_assoc] at g1 g2 g3
      rw [Nat.add_zero] at g0
      obtain ⟨wv, hwv⟩ : ∃ wv, wr.alloc (.cells #[.int .i64 (o.kind : Nat), .string (tstr o.table), .slice Ac o.cols.length cc, .slice Ar o.row.length cr] 259) = wv := ⟨_, rfl⟩
      have hbv : Below wr.heap.size wr wv := by rw [← hwv]; exact (Below.refl _ _).alloc (Nat.le_refl _) _
      have BV : Blk wv wr.heap.size 259 [.int .i64 (o.kind : Nat), .string (tstr o.table), .slice Ac o.cols.length cc, .slice Ar o.row.length cr] := by rw [← hwv]; exact Blk.new wr 259 _
      obtain ⟨k0, k1, k2, k3, _⟩ := facts4 BV
      have hBv := Lib.hid (HB.out.trans (hbv.mono HB.out.size))
      have hOv := Lib.hid (HO.out.below SlR.fr hbv)
      have HT := Lib.hid (opText_any P _ o wv (hor2.out.only (Only.of_below hbv (fun _ => False)) (fun _ _ h => h)) (fun b hb => Nat.lt_of_lt_of_le (HP.out b hb) hBv.out.size) hok)
      have hlen := Lib.hid (encOp_len hok)
      have HC := Lib.hid hc
      clear hc hcell hok hsr hbv
      clear BV
      go_wp2_with fail
      refine HT.out.mono ?_
      rintro e w3 ⟨A3, n3, cap3, rfl, hn3⟩
      have hb3 := hn3.2.2.2.2
      have SL := Lib.hid (NB.slR hn3 (by have := hlen.out; omega))
      have O3 := Lib.hid (hOv.out.below SlR.fr hb3)
      have B3 := Lib.hid (hBv.out.trans (hb3.mono hBv.out.size))
      obtain ⟨W3, hW3⟩ : ∃ W, w3.alloc (.cells #[.slice A3 n3 cap3] 25) = W := ⟨_, rfl⟩
      have hb4 : Below w3.heap.size w3 W3 := by rw [← hW3]; exact (Below.refl _ _).alloc (Nat.le_refl _) _
      have S4 : Hid (Src W3 (some ⟨w3.heap.size, 0, none⟩) [.slice A3 n3 cap3]) := Src.of_blk (t := 25) (by rw [← hW3]; exact Blk.new w3 25 _)
      have O4 := Lib.hid (O3.out.below SlR.fr hb4)
      have B4 := Lib.hid (B3.out.trans (hb4.mono B3.out.size))
      have R4 : Hid (SlR W3 (fun b => w.heap.size ≤ b ∧ b < W3.heap.size ∧ u3.ownBlock ≠ some b) [.slice A3 n3 cap3] (Pl.encOp o)) :=
        SlR.fr _ _ _ _ _ _ _ SL.out (Only.of_below hb4 (fun _ => False)) (fun _ _ h => h) (fun b hb => ⟨Nat.le_trans hBv.out.size hb.1, Nat.lt_of_lt_of_le hb.2 hb4.size, fun e => by have := (hOv.out.lt b e).2; omega⟩)
      have HLN : Hid (((ops.take k).map Pl.encOp).length ≤ 4294967296) := by rw [Hid, List.length_map, List.length_take]; omega
      clear hn3 hb3 hb4
      go_wp2_with (first
        | (at_builtin
           refine wpList_ol (v := u3) SlR.fr rfl (.tmp 13) (.tmp 16) 23 rfl Tryz.underlying23 HI.out.1 HI.out.2.1 HI.out.2.2.1 HI.out.2.2.2 rfl (by decide) rfl O4.out (some ⟨w3.heap.size, 0, none⟩) 1 [.slice A3 n3 cap3] (Pl.encOp o) rfl rfl S4.out (by simp; rfl) R4.out HLN.out (by decide) B4.out.size ?_
           intro v5 w5 o5 m5
           have O5 : Hid (BL w5 w.heap.size v5 ((ops.take (k + 1)).map Pl.encOp)) := by rw [Hid, List.take_add_one, HC.out, List.map_append]; exact o5
           have B5 : Hid (Below w.heap.size w w5) := B4.out.trans (m5.only.toBelow B4.out.size (fun b hb e => by have := (O4.out.lt b e).1; omega)))
        | fail)
      exact ⟨⟨k + 1, by omega, by go_num, O5.out, B5.out⟩, by simp [intOf]; omega⟩
    · obtain rfl : k = n := by omega
      have HO2 : Hid (BL wr w.heap.size u3 (ops.map Pl.encOp)) := by
        have := HO.out
        rw [List.take_of_length_le (by rw [HN.out]; exact Nat.le_refl _)] at this
        exact this
      clear HO
      go_wp2_with fail
      go_ret
      exact ⟨_, rfl, HO2.out, HB.out⟩
end Go.Proofs.YtljmklohgpaopaaGreatDoor

namespace Go.Proofs.YtljmklohgpaopaaGreatDoor
open Go.RowKit

/-- What hashes makes of a reader. -/
def HashesTo (l : List UInt8) (bad : Bool) (ps : List Nat) (l' : List UInt8) (bad' : Bool) : Prop :=
  (bad' = true ∧ (bad = true ∨ l.length < 1 ∨ (l.drop 1).length < 4 * Pl.num (l.take 1))) ∨
  (bad' = false ∧ bad = false ∧ 1 ≤ l.length ∧ 4 * Pl.num (l.take 1) ≤ (l.drop 1).length ∧ ps = Pl.groups ((l.drop 1).take (4 * Pl.num (l.take 1))) ∧ l' = (l.drop 1).drop (4 * Pl.num (l.take 1)))
theorem HashesTo.st {l l' : List UInt8} {bad bad' : Bool} {ps : List Nat} (h : HashesTo l bad ps l' bad') {o : Option Pl.Ev} {f : List UInt8 → List UInt8 → Option Pl.Ev}
    (hs : Pl.St o bad (Pl.bt 1 l fun k l => Pl.bt (4 * Pl.num k) l f)) : ∃ p, Pl.St o bad' (f p l') ∧ (bad' = false → ps = Pl.groups p) := by
  rcases h with ⟨rfl, h⟩ | ⟨rfl, rfl, h1, h2, rfl, rfl⟩
  · refine ⟨[], ?_, fun h => by cases h⟩
    rcases h with rfl | h | h
    · exact hs.bad _
    · exact hs.short h _
    · exact hs.take.short h _
  · refine ⟨(l.drop 1).take (4 * Pl.num (l.take 1)), ?_, fun _ => rfl⟩
    have := hs.take.take
    rwa [decide_eq_false (by omega), decide_eq_false (by omega), Bool.or_false, Bool.or_false] at this
/-- Where the loop stands behind so many rounds. -/
def HashesAt (l1 : List UInt8) (bad1 : Bool) (r : Nat) (ps : List Nat) (lr : List UInt8) (br : Bool) : Prop :=
  (br = true ∧ (bad1 = true ∨ l1.length < 4 * r)) ∨ (br = false ∧ bad1 = false ∧ 4 * r ≤ l1.length ∧ ps = Pl.groups (l1.take (4 * r)) ∧ lr = l1.drop (4 * r))
theorem HashesAt.start (l1 : List UInt8) (bad1 : Bool) : HashesAt l1 bad1 0 [] l1 bad1 := by
  cases bad1
  · exact .inr ⟨rfl, rfl, by omega, by simp [Pl.groups], by simp⟩
  · exact .inl ⟨rfl, .inl rfl⟩
theorem groups_snoc (l : List UInt8) (r : Nat) (h : 4 * (r + 1) ≤ l.length) : Pl.groups (l.take (4 * (r + 1))) = Pl.groups (l.take (4 * r)) ++ [Pl.hashOf ((l.drop (4 * r)).take 4)] := by
  induction r generalizing l with
  | zero =>
    rw [Nat.zero_add, Nat.mul_one, Pl.groups_long _ (by rw [List.length_take]; omega), Pl.groups_short _ (by rw [List.length_drop, List.length_take]; omega)]
    rfl
  | succ r ih =>
    have e1 : (l.take (4 * (r + 1 + 1))).drop 4 = (l.drop 4).take (4 * (r + 1)) := by rw [List.drop_take]; congr 1
    have e2 : (l.take (4 * (r + 1))).drop 4 = (l.drop 4).take (4 * r) := by rw [List.drop_take]; congr 1
    have e3 : ∀ n, 4 ≤ n → Pl.hashOf (l.take n) = Pl.hashOf l := by
      intro n hn
      unfold Pl.hashOf
      rw [List.take_append_of_le_length (by rw [List.length_take]; omega), List.take_take, List.take_append_of_le_length (by omega), Nat.min_eq_left (by omega)]
    rw [Pl.groups_long _ (by rw [List.length_take]; omega), e1, ih (l.drop 4) (by rw [List.length_drop]; omega), Pl.groups_long (l.take (4 * (r + 1))) (by rw [List.length_take]; omega), e2, e3 _ (by omega), e3 _ (by omega)]
    rw [List.cons_append, List.drop_drop, show 4 + 4 * r = 4 * (r + 1) by omega]
theorem HashesAt.step {l1 lr : List UInt8} {bad1 : Bool} {r : Nat} {ps : List Nat} (h : HashesAt l1 bad1 r ps lr false) : HashesAt l1 bad1 (r + 1) (ps ++ [Pl.hashOf (lr.take 4)]) (lr.drop 4) (false || decide (lr.length < 4)) := by
  rcases h with ⟨h, _⟩ | ⟨_, h1, h2, rfl, rfl⟩
  · cases h
  · by_cases hl : (l1.drop (4 * r)).length < 4
    · refine .inl ⟨by rw [decide_eq_true hl]; rfl, .inr ?_⟩
      rw [List.length_drop] at hl
      omega
    · refine .inr ⟨by rw [decide_eq_false hl]; rfl, h1, ?_, ?_, ?_⟩
      · rw [List.length_drop] at hl; omega
      · rw [List.length_drop] at hl; rw [groups_snoc l1 r (by omega)]
      · rw [List.drop_drop]; congr 1
theorem HashesAt.done {l : List UInt8} {bad : Bool} {r : Nat} {ps : List Nat} {lr : List UInt8} {br : Bool} (h : HashesAt (l.drop 1) (bad || decide (l.length < 1)) r ps lr br) (hr : r ≤ Pl.num (l.take 1)) (he : br = false → r = Pl.num (l.take 1)) : HashesTo l bad ps lr br := by
  rcases h with ⟨rfl, h⟩ | ⟨rfl, h1, h2, rfl, rfl⟩
  · refine .inl ⟨rfl, ?_⟩
    rcases h with h | h
    · simp at h
      rcases h with h | h
      · exact .inl h
      · exact .inr (.inl (by rw [h]; simp))
    · exact .inr (.inr (by omega))
  · obtain rfl := he rfl
    have h3 : bad = false ∧ 1 ≤ l.length := by
      cases bad
      · have : ¬ l.length < 1 := by simpa using h1
        exact ⟨rfl, by omega⟩
      · simp at h1
    exact .inr ⟨rfl, h3.1, h3.2, h2, rfl, rfl⟩

set_option maxHeartbeats 1000000 in
theorem entry_more (n t ops r : Nat) (w : World) (hn : n < 4294967296) (ht : t < 18446744073709551616) (ho : ops < 256) (hr : r < 4294967296) :
    Calls Tryz.prog 171 #[.int .i64 n, .int .u64 t, .int .i64 ops, hashVal r] w fun e w' => ∃ A' cap', e = .returned (.slice A' 17 cap') ∧ BytesAt w' A' (Pl.entry n (Pl.be 8 t) ops r) ∧ Below w.heap.size w w' ∧ 17 ≤ cap' ∧ ∀ p, A' = some p → w.heap.size ≤ p.block ∧ p.block < w'.heap.size := by
  obtain ⟨i0, hi, hz0, hz1, hz2⟩ := info_parts Tryz.infoByte
  have hB := Blk.new w 200 (hc r)
  have HB := Lib.hid hB
  have HR := Lib.hid (hc_be r hr)
  have hbel0 := Lib.hid ((Below.refl w.heap.size w).alloc (Nat.le_refl _) (.cells (hc r).toArray 200))
  obtain ⟨c, hcc⟩ : ∃ c : UInt8, c.toNat = ops := ⟨UInt8.ofNat ops, by simp; omega⟩
  have HC : Hid (UInt8.ofNat ops = c) := by rw [Hid, ← hcc]; simp
  clear hB
  unfold hashVal
  unfold hc at HB hbel0
  go_enter Tryz.func171, Tryz.ntmps171
  go_wp2_with fail
  refine (put_any (.slice none 0 0) 0 [] n 4 (w.heap.size + 1) _ (by exact .own (World.ownsRow_nil _ _ _ _)) (by simp) (by omega) (by omega) (by omega) (by omega)).mono ?_
  rintro e w1 ⟨v1, rfl, hown1, hb1, hkeep1⟩
  obtain ⟨k1, n1⟩ := hkeep1 w.heap.size (by simp) (fun e => by cases e)
  have HB1 := Lib.hid (k1.trans HB.out)
  have hbel1 := Lib.hid (hbel0.out.trans (hb1.mono (by simp)))
  have hsz1 := hb1.size
  simp only [World.size_alloc] at hsz1
  have HN1 := Lib.hid n1
  clear hkeep1 k1 n1 hb1
  go_wp2_with fail
  refine (put_any v1 4 (Pl.be 4 n) t 8 (w.heap.size + 1) w1 (by exact .own hown1) hsz1 (by omega) (by omega) (by omega) (by omega)).mono ?_
  rintro e w2 ⟨v2, rfl, hown2, hb2, hkeep2⟩
  obtain ⟨k2, n2⟩ := hkeep2 w.heap.size (by omega) HN1.out
  have HB2 := Lib.hid (k2.trans HB1.out)
  have hbel2 := Lib.hid ((hbel1.out.trans (hb2.mono (by omega))).alloc (Nat.le_trans (by omega) hb2.size) (.cells #[.int .u8 (ops : Int)] 5))
  have hsz2 : w.heap.size + 1 ≤ w2.heap.size := Nat.le_trans hsz1 hb2.size
  have HN2 := Lib.hid n2
  have hown3 := Lib.hid (hown2.alloc (.cells #[.int .u8 (ops : Int)] 5))
  have hsrc3 := Lib.hid (Src.of_blk (Blk.new w2 5 [.int .u8 (ops : Int)]))
  have HB3 := Lib.hid (Blk.alloc HB2.out (.cells #[.int .u8 (ops : Int)] 5))
  have hone : Hid (∀ u ∈ [Value.int .u8 (ops : Int)], u.oneCell' = true) := by
    intro u hu
    simp at hu
    subst hu
    rfl
  have hbase3 : w.heap.size + 1 ≤ (w2.alloc (.cells #[.int .u8 (ops : Int)] 5)).heap.size := Nat.le_trans hsz2 (by simp)
  have hv2lt := Lib.hid hown2.lt
  clear hkeep2 k2 n2 hb2 hown2
  go_wp2_with (first
    | (at_builtin
       refine wpList_append_src _ rfl (.tmp 14) (.tmp 17) 25 rfl (w.heap.size + 1) 5 i0 (.int .u8 0) 1 1 Tryz.underlying25 hi hz0 hz1 hz2 rfl (by decide) v2 12 _ rfl hown3.out (some ⟨w2.heap.size, 0, none⟩) 1 1 [.int .u8 (ops : Int)] rfl rfl hsrc3.out hone.out (by simp only [maxLen]; omega) (byte_room (by omega)) hbase3 ?_
       intro v3 w3 hown4 hg3 hat3
       have hn3 : v2.ownBlock ≠ some w.heap.size := HN2.out
       have HB4 := Lib.hid (Blk.grown HB3.out hg3 (fun e => HN2.out e.symm))
       have hsrc4 := Lib.hid (Src.of_blk HB4.out)
       have hbel3 := Lib.hid (hbel2.out.grown hg3 (Nat.le_trans (by omega) hbase3) (fun k hk => by have := (hown3.out.lt k hk).1; omega))
       have hbase4 := Nat.le_trans hbase3 hg3.size)
    | (at_builtin
       refine wpList_append_src _ rfl (.tmp 19) (.tmp 20) 25 rfl (w.heap.size + 1) 5 i0 (.int .u8 0) 1 1 Tryz.underlying25 hi hz0 hz1 hz2 rfl (by decide) v3 13 _ rfl hown4 (some ⟨w.heap.size, 0, none⟩) 4 4 (hc r) rfl rfl hsrc4.out (hc_one r) (by simp only [maxLen]; omega) (byte_room (by omega)) hbase4 ?_
       intro v4 w4 hown5 hg4 hat4
       have hbel4 := Lib.hid (hbel3.out.grown hg4 (Nat.le_trans (by omega) hbase4) (fun k hk => by have := (hown4.lt k hk).1; omega))))
  obtain ⟨A1, cap1, rfl, hcap, hsrc, hat5⟩ := own_src hown5
  have hlt5 := Lib.hid (fun p hp => hown5.lt _ (hat5 p hp))
  have hcap5 := Lib.hid hcap
  go_wp2
  go_ret
  refine ⟨A1, cap1, by simp, Src.bytes ?_, hbel4.out, hcap5.out, fun p hp => ⟨by have := (hlt5.out p hp).1; omega, (hlt5.out p hp).2⟩⟩
  have he : bv (Pl.entry n (Pl.be 8 t) ops r) = bv ([] ++ Pl.be 4 n ++ Pl.be 8 t) ++ [.int .u8 (ops : Int)] ++ hc r := by
    rw [HR.out, ← hcc, show [Value.int .u8 ((c.toNat : Nat) : Int)] = bv [c] from rfl, ← bv_append, ← bv_append]
    simp [Pl.entry]
  rw [he]
  exact hsrc
end Go.Proofs.YtljmklohgpaopaaGreatDoor

namespace Go.Proofs.YtljmklohgpaopaaGreatDoor
open Go.RowKit

theorem number_any (s : ByteArray) (w : World) (hl : s.size ≤ 8) :
    Calls Tryz.prog 114 #[.string s] w fun e w' => e = .returned (.int .u64 (Pl.num s.data.toList : Nat)) ∧ w = w' := by
  obtain ⟨l, hll⟩ : ∃ l, s.data.toList = l := ⟨_, rfl⟩
  have hsz : l.length = s.size := by rw [← hll]; rfl
  have HSZ := Lib.hid hsz
  have hl8 : l.length ≤ 8 := by omega
  rw [hll]
  go_enter Tryz.func114, Tryz.ntmps114
  go_wp2_with fail
  go_loop [3, 4] (fun v i => ∃ k : Nat, k ≤ l.length ∧ i = .int .i64 k ∧ v = .int .u64 (Pl.num (l.take k) : Nat)) (fun _ i => l.length - (intOf i).toNat)
  case atStart => exact ⟨0, Nat.zero_le _, rfl, rfl⟩
  case round =>
    obtain ⟨k, hk, rfl, rfl⟩ := hrel
    by_cases hlt : k < l.length
    · have hks : k < s.size := by omega
      have hn1 := Pl.num_take_lt l k
      have hn2 : Pl.num (l.take k) < 72057594037927936 := Nat.lt_of_lt_of_le hn1 (Nat.pow_le_pow_right (n := 256) (j := 7) (by decide) (by omega))
      have hnext : Hid (Pl.num (l.take (k + 1)) = 256 * Pl.num (l.take k) + l[k].toNat) := by rw [Hid, take_snoc l k hlt, Pl.num_snoc]
      obtain ⟨v, hv⟩ : ∃ v, Pl.num (l.take k) = v := ⟨_, rfl⟩
      have hlk : l[k] = s[k] := by subst hll; rfl
      obtain ⟨c, hc⟩ : ∃ c, s[k] = c := ⟨_, rfl⟩
      have hc8 := c.toNat_lt
      have hnext' : Hid (Pl.num (l.take (k + 1)) = 256 * v + c.toNat) := by rw [← hv, ← hc, ← hlk]; exact hnext
      rw [hv] at hn2 ⊢
      clear hn1 hnext hv hlk hll hsz
      go_wp2_with fail
      refine ⟨⟨k + 1, by omega, by simp, ?_⟩, by simp [intOf]; omega⟩
      rw [hnext'.out]
      simp
    · obtain rfl : k = l.length := by omega
      have hks : ¬ l.length < s.size := by omega
      rw [List.take_length]
      clear hll hsz
      go_wp2_with fail
      go_ret
      exact ⟨rfl, rfl⟩

/-- A cursor: what is left, and is it bad? -/
def Cur (w : World) (g : Nat) (l : List UInt8) (bad : Bool) : Prop := l.length ≤ 140737488351232 ∧ Blk w g 147 [.string (tstr l), .bool bad]
theorem Cur.below {w w' : World} {g : Nat} {l : List UInt8} {bad : Bool} (h : Cur w g l bad) (hb : Below w.heap.size w w') : Cur w' g l bad := ⟨h.1, h.2.below hb h.2.lt⟩
theorem Cur.grown {w w' : World} {g : Nat} {l : List UInt8} {bad : Bool} (h : Cur w g l bad) (hb : Below w.heap.size w w') : Cur w' g l bad := h.below hb

set_option maxHeartbeats 1000000 in
theorem curTake_enough (g n : Nat) (l : List UInt8) (bad : Bool) (w : World) (h : Cur w g l bad) (hn : n ≤ l.length) :
    Calls Tryz.prog 115 #[.pointer (some ⟨g, 0, none⟩), .int .i64 n] w fun e w' => e = .returned (.string (tstr (l.take n))) ∧ Cur w' g (l.drop n) bad ∧ w.grownBy w' (some g) := by
  obtain ⟨hm, hB⟩ := h
  have c0 := hB.cell 0
  have f0 := hB.frozen 0
  simp only [List.getElem?_cons_zero] at c0
  have h1 := fun w => run_str_take w l n n rfl hn
  have h2 := fun w => run_str_drop w l n n rfl hn
  have hsz := tstr_size l
  obtain ⟨st, hst⟩ : ∃ st, tstr l = st := ⟨_, rfl⟩
  rw [hst] at c0 h1 h2 hsz
  have hx1 : ¬ (st.size : Int) < n := by omega
  have hx2 : ¬ st.size < n := by omega
  have HB := Lib.hid hB
  clear hB hst hsz
  go_enter Tryz.func115, Tryz.ntmps115
  go_wp2_with fail
  go_ret
  refine ⟨rfl, ⟨by rw [List.length_drop]; omega, HB.out.set_ 0 _⟩, ?_⟩
  exact Only.to_grown ((Only.refl (· = g) w).setCell (p := ⟨g, 0, none⟩) (.inl rfl) _)
theorem zeros_at (w : World) (n : Nat) : BytesAt (w.alloc (.cells (zrow n).toArray 5)) (some ⟨w.heap.size, 0, none⟩) (List.replicate n 0) := by
  refine Src.bytes ?_
  have h : bv (List.replicate n 0) = zrow n := by simp [bv, zrow]
  rw [h]
  exact Src.of_blk (Blk.new _ _ _)
set_option maxHeartbeats 1000000 in
theorem curTake_short (g n : Nat) (l : List UInt8) (bad : Bool) (w : World) (h : Cur w g l bad) (hn : l.length < n) (hn2 : n ≤ 281474976710656) :
    Calls Tryz.prog 115 #[.pointer (some ⟨g, 0, none⟩), .int .i64 n] w fun e w' => e = .returned (.string (tstr (List.replicate n 0))) ∧ Cur w' g l true ∧ w.grownBy w' (some g) := by
  obtain ⟨hm, hB⟩ := h
  have c0 := hB.cell 0
  have c1 := hB.cell 1
  have f1 := hB.frozen 1
  simp only [List.getElem?_cons_zero, List.getElem?_cons_succ] at c0 c1
  have hsz := tstr_size l
  have hmk := make_bytes (n : Int) n rfl hn2
  have hcv := run_tostr ((w.setCell ⟨g, 1, none⟩ (.bool true)).alloc (.cells (zrow n).toArray 5)) (some ⟨(w.setCell ⟨g, 1, none⟩ (.bool true)).heap.size, 0, none⟩) (List.replicate n 0) n (zeros_at _ n)
  rw [List.length_replicate] at hcv
  obtain ⟨zs, hzs⟩ : ∃ zs, (zrow n).toArray = zs := ⟨_, rfl⟩
  obtain ⟨zt, hzt⟩ : ∃ zt, tstr (List.replicate n 0) = zt := ⟨_, rfl⟩
  rw [hzs] at hmk hcv
  rw [hzt] at hcv ⊢
  obtain ⟨st, hst⟩ : ∃ st, tstr l = st := ⟨_, rfl⟩
  rw [hst] at c0 hsz
  have HST := Lib.hid hst
  have hx1 : (st.size : Int) < n := by omega
  have hx2 : st.size < n := by omega
  have HB := Lib.hid hB
  have hsc : (w.setCell ⟨g, 1, none⟩ (.bool true)).heap.size = w.heap.size := by simp [World.setCell]
  rw [hsc] at hcv
  clear hB hst hsz hzs hzt hsc
  go_enter Tryz.func115, Tryz.ntmps115
  go_wp2_with fail
  go_ret
  refine ⟨rfl, ⟨hm, ?_⟩, ?_⟩
  · exact (HB.out.set_ 1 (.bool true)).alloc _
  · exact Only.to_grown (((Only.refl (· = g) w).setCell (p := ⟨g, 1, none⟩) (.inl rfl) _).alloc _)
end Go.Proofs.YtljmklohgpaopaaGreatDoor

namespace Go.Proofs.YtljmklohgpaopaaGreatDoor
open Go.RowKit

theorem run_one (c : Nat) (hc : c < 256) (w : World) : (convert 25 9 (.slice (some ⟨w.heap.size, 0, none⟩) 1 1)).run Tryz.prog (w.alloc (.cells #[.int .u8 (c : Int)] 5)) = .ok (.string (tstr [UInt8.ofNat c])) (w.alloc (.cells #[.int .u8 (c : Int)] 5)) :=
  run_tostr _ _ [UInt8.ofNat c] 1 (src_one w c hc).bytes
/-- A call that makes a text. -/
def TX (w : World) (l : List UInt8) (e : Ending) (w' : World) : Prop := e = .returned (.string (tstr l)) ∧ Below w.heap.size w w'
theorem below_alloc (w : World) (o : Obj) : Below w.heap.size w (w.alloc o) := (Below.refl _ _).alloc (Nat.le_refl _) _
theorem refShort_any (s : List UInt8) (w : World) (hs : s.length < 256) : Calls Tryz.prog 122 #[.string (tstr s)] w (TX w (Pl.short s)) := by
  have hz := tstr_size s
  obtain ⟨n, hn⟩ : ∃ n, s.length = n := ⟨_, rfl⟩
  have hw := wrap_u8 (show n < 256 by omega)
  have h1 := run_one n (by omega) w
  have h2 : ∀ W, (Op.stringOp .add (tstr [UInt8.ofNat n]) (tstr s)).run Tryz.prog W = .ok (.string (tstr ([UInt8.ofNat n] ++ s))) W := fun W => run_cat W [UInt8.ofNat n] s (by simp; omega)
  have hsh : Hid (Pl.short s = [UInt8.ofNat n] ++ s) := by rw [Hid, ← hn]; rfl
  have hb := Lib.hid (below_alloc w (.cells #[.int .u8 (n : Int)] 5))
  rw [hn] at hz
  clear hn hs
  go_enter Tryz.func122, Tryz.ntmps122
  go_wp2_with fail
  go_ret
  exact ⟨by rw [hsh.out]; rfl, hb.out⟩
set_option maxHeartbeats 1000000 in
theorem refLaid_any (x : Pl.Vl) (w : World) (hx : VlB x) : Calls Tryz.prog 123 #[.agg #[.int .i64 (x.ty : Nat), .int .i64 (sig x.n), .string (tstr x.s)]] w (TX w (Pl.encV x)) := by
  obtain ⟨ty, n, s⟩ := x
  obtain ⟨h1, h2, h3⟩ := hx
  dsimp only at h1 h2 h3 ⊢
  have hz := tstr_size s
  have v1 := wrap_u8 h1
  have v2 := wrap_sig h2
  obtain ⟨wb, hwb⟩ : ∃ wb, w.alloc (.cells #[.int .i64 (ty : Nat), .int .i64 (sig n), .string (tstr s)] 122) = wb := ⟨_, rfl⟩
  obtain ⟨gb, hgb⟩ : ∃ g, w.heap.size = g := ⟨_, rfl⟩
  have BB : Blk wb gb 122 [.int .i64 (ty : Nat), .int .i64 (sig n), .string (tstr s)] := by rw [← hwb, ← hgb]; exact Blk.new w 122 _
  have hbb : Below w.heap.size w wb := by rw [← hwb]; exact below_alloc _ _
  have ho := run_one ty h1 wb
  obtain ⟨wc, hwc⟩ : ∃ wc, wb.alloc (.cells #[.int .u8 (ty : Int)] 5) = wc := ⟨_, rfl⟩
  have hbc : Below wb.heap.size wb wc := by rw [← hwc]; exact below_alloc _ _
  obtain ⟨c0, c1, c2, _, _, _⟩ := facts3 BB
  obtain ⟨d0, d1, d2, _, _, _⟩ := facts3 (BB.below hbc BB.lt)
  rw [hwc] at ho
  have HBC := Lib.hid (hbb.trans (hbc.mono hbb.size))
  clear hbb hbc BB
  by_cases ht : ty = 1
  · have q1 : ((ty : Int) == 1) = true := by rw [ht]; rfl
    have HE : Hid (Pl.encV ⟨ty, n, s⟩ = [UInt8.ofNat ty] ++ Pl.be 8 n) := by rw [Hid]; unfold Pl.encV; rw [if_pos ht]; rfl
    have h2' : ∀ W, (Op.stringOp .add (tstr [UInt8.ofNat ty]) (tstr (Pl.be 8 n))).run Tryz.prog W = .ok (.string (tstr ([UInt8.ofNat ty] ++ Pl.be 8 n))) W := fun W => run_cat W [UInt8.ofNat ty] (Pl.be 8 n) (by simp [Pl.be_length])
    clear ht
    go_enter Tryz.func123, Tryz.ntmps123
    go_wp2_with fail
    refine (refBytes_any n 8 _ h2 (by omega)).mono ?_
    rintro e w2 ⟨rfl, hb2⟩
    have HB := Lib.hid (HBC.out.trans (hb2.mono HBC.out.size))
    clear hb2
    rw [show (⟨(Pl.be 8 n).toArray⟩ : ByteArray) = tstr (Pl.be 8 n) from rfl]
    go_wp2_with fail
    go_ret
    exact ⟨by rw [HE.out]; rfl, HB.out⟩
  · have q1 : ((ty : Int) == 1) = false := beq_eq_false_iff_ne.2 (by omega)
    have HE : Hid (Pl.encV ⟨ty, n, s⟩ = [UInt8.ofNat ty] ++ Pl.short s) := by rw [Hid]; unfold Pl.encV; rw [if_neg ht]; rfl
    have h2' : ∀ W, (Op.stringOp .add (tstr [UInt8.ofNat ty]) (tstr (Pl.short s))).run Tryz.prog W = .ok (.string (tstr ([UInt8.ofNat ty] ++ Pl.short s))) W := fun W => run_cat W [UInt8.ofNat ty] (Pl.short s) (by simp [Pl.short]; omega)
    have HSH := Lib.hid (refShort_any s wc (by omega))
    clear ht
    go_enter Tryz.func123, Tryz.ntmps123
    go_wp2_with fail
    refine HSH.out.mono ?_
    rintro e w2 ⟨rfl, hb2⟩
    have HB := Lib.hid (HBC.out.trans (hb2.mono HBC.out.size))
    clear hb2
    go_wp2_with fail
    go_ret
    exact ⟨by rw [HE.out]; rfl, HB.out⟩
end Go.Proofs.YtljmklohgpaopaaGreatDoor
