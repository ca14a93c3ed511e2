/- The walks of the harness's raws and told; the harness over a disk that may die, in memory. The harness's act on a log: Sync, Reset, Die. -/
import Derived.Test.YtljmklohgpaopaaDoorMgLogged14
set_option linter.unusedVariables false
set_option linter.unusedSimpArgs false

namespace Go.Proofs.YtljmklohgpaopaaDoor
open Go.RowKit

theorem Tryd.infoInt : (Tryd.prog.info? 3).map (fun i => (i.zero, i.size, i.bytes)) = some (some (.int .i64 0), 1, 8) := by kernel_rfl
theorem int_room {n m : Nat} (h : n + m ≤ 4398046511104) : ∀ old, old < n + m → Builtin.nextslicecap (n + m) old * 8 ≤ 281474976710656 := by
  intro old ho
  have := nextslicecap_le54 ho
  omega
/-- The raw numbers out of a script, from a place on. -/
def rawOf (s : ByteArray) (k : Nat) : List Int := ((s.data.toList.drop k).take 40).map (fun c => ((c.toNat : Nat) : Int))
theorem rawOf_raw (s : ByteArray) (k : Nat) : Raw (rawOf s k) := by
  intro c hc
  obtain ⟨x, _, rfl⟩ := List.mem_map.1 hc
  have := x.toNat_lt
  omega
theorem rawOf_length (s : ByteArray) (k : Nat) : (rawOf s k).length = min 40 (s.size - k) := by
  unfold rawOf
  rw [List.length_map, List.length_take, List.length_drop]
  rfl
theorem rawOf_get (s : ByteArray) (k j : Nat) (hj : j < 40) (h : k + j < s.size) : (rawOf s k)[j]? = some (((s[k + j]).toNat : Nat) : Int) := by
  unfold rawOf
  rw [List.getElem?_map, List.getElem?_take, if_pos hj, List.getElem?_drop, List.getElem?_eq_getElem (by simpa using h)]
  rfl

set_option maxHeartbeats 1000000 in
set_option maxRecDepth 100000 in
theorem raws_any (s : ByteArray) (k : Nat) (w : World) (hk : k ≤ 5000) (hs : s.size ≤ 4096) :
    Calls Tryd.prog 48 #[.string s, .int .i64 (k : Nat)] w fun e w' => ∃ A cap, e = .returned (.slice A (rawOf s k).length cap) ∧ w'.ownsRow w.heap.size 3 1 (.slice A (rawOf s k).length cap) (rawOf s k).length (iv (rawOf s k)) ∧ Below w.heap.size w w' := by
  obtain ⟨i0, hi, hz0, hz1, hz2⟩ := info_parts Tryd.infoInt
  obtain ⟨R, hR⟩ : ∃ R, rawOf s k = R := ⟨_, rfl⟩
  have hlen := rawOf_length s k
  rw [hR] at hlen ⊢
  obtain ⟨N, hN⟩ : ∃ N, R.length = N := ⟨_, rfl⟩
  have HR := Lib.hid hR
  have HL := Lib.hid hlen
  have HN := Lib.hid hN
  have hN40 : N ≤ 40 := by rw [← hN, hlen]; omega
  clear hR hlen hN
  go_enter Tryd.func48, Tryd.ntmps48
  go_wp2_with fail
  go_loopw [5, 6] (fun u i W => ∃ (x j cap : Nat) (A : Option Addr), x = k + j ∧ j ≤ N ∧ i = .int .i64 (x : Int) ∧ u = .slice A j cap ∧ Hid (W.ownsRow w.heap.size 3 1 (.slice A j cap) j (iv (R.take j))) ∧ Hid (Below w.heap.size w W)) (fun _ i _ => k + N - (intOf i).toNat)
  case atStart => exact ⟨k, 0, 0, none, rfl, Nat.zero_le _, rfl, rfl, World.ownsRow_nil _ _ _ _, Below.refl _ _⟩
  case round =>
    obtain ⟨x, j, cap, A, hx, hj, rfl, rfl, HO, HB⟩ := hrel
    by_cases hjn : j < N
    · have hjs : x < s.size := by have := HL.out; have := HN.out; omega
      obtain ⟨c, hc⟩ : ∃ c, s[x] = c := ⟨_, rfl⟩
      have hget := rawOf_get s k j (by omega) (by omega)
      rw [HR.out] at hget
      have hcx : s[k + j]'(by omega) = c := by rw [← hc]; congr 1; exact hx.symm
      rw [hcx] at hget
      have htk : Hid (iv (R.take (j + 1)) = iv (R.take j) ++ [.int .i64 ((c.toNat : Nat) : Int)]) := by
        rw [Hid, List.take_add_one, hget]
        simp [iv]
      have q1 : (x : Int) < (s.size : Int) := by omega
      have q2 : (x : Int) < (k : Int) + 40 := by omega
      have HX := Lib.hid hx
      have hcl := c.toNat_lt
      have hown2 := Lib.hid (HO.out.alloc (.cells #[.int .i64 ((c.toNat : Nat) : Int)] 3))
      have hsrc2 := Lib.hid (Src.of_blk (Blk.new wr 3 [.int .i64 ((c.toNat : Nat) : Int)]))
      have hbel2 := Lib.hid (HB.out.alloc (HB.out.size) (.cells #[.int .i64 ((c.toNat : Nat) : Int)] 3))
      have hroom := Lib.hid (int_room (n := j) (m := 1) (by omega))
      have h63 := Lib.hid (show j + 1 ≤ maxLen by simp only [maxLen]; omega)
      have hone : Hid (∀ u ∈ [Value.int .i64 ((c.toNat : Nat) : Int)], u.oneCell' = true) := by
        intro u hu
        simp at hu
        subst hu
        rfl
      have hbase2 : Hid (w.heap.size ≤ (wr.alloc (.cells #[.int .i64 ((c.toNat : Nat) : Int)] 3)).heap.size) := Nat.le_trans HB.out.size (by simp)
      clear hget hcx hx
      go_wp2_with (at_builtin
                   refine wpList_append_src _ rfl (.tmp 20) (.tmp 25) 113 rfl w.heap.size 3 i0 (.int .i64 0) 1 8 Tryd.underlying113 hi hz0 hz1 hz2 rfl (by decide) (.slice A j cap) j (iv (R.take j)) rfl hown2.out (some ⟨wr.heap.size, 0, none⟩) 1 1 [.int .i64 ((c.toNat : Nat) : Int)] rfl rfl hsrc2.out hone.out h63.out hroom.out hbase2.out ?_
                   intro v3 w3 hown3 hgrow3 hat3
                   obtain ⟨A3, cap3, rfl, _, _, _⟩ := own_src hown3)
      have hbel3 := hbel2.out.trans (only_below (Only.of_grown_own hgrow3) (fun x hx => (hown2.out.lt x hx).1) hbase2.out)
      rw [← htk.out] at hown3
      exact ⟨⟨x + 1, j + 1, cap3, A3, by have := HX.out; omega, by omega, by go_num, rfl, hown3, hbel3⟩, by simp [intOf]; have := HX.out; omega⟩
    · obtain rfl : j = N := by omega
      have htk : R.take j = R := by rw [← HN.out, List.take_length]
      have hown := HO.out
      rw [htk] at hown
      have HO' := Lib.hid hown
      have hout : ¬ (x < s.size ∧ x < k + 40) := by have := HL.out; have := HN.out; omega
      clear hown htk
      by_cases h1 : x < s.size
      · have q2 : ¬ ((x : Int) < (k : Int) + 40) := by omega
        have q3 : decide ((x : Int) < (k : Int) + 40) = false := by simpa using q2
        have q1 : (x : Int) < (s.size : Int) := by omega
        clear h1 hout
        go_wp2_with fail
        go_ret
        refine ⟨A, cap, ?_⟩
        rw [HN.out]
        exact ⟨rfl, HO'.out, HB.out⟩
      · have q1 : ¬ ((x : Int) < (s.size : Int)) := by omega
        have q3 : decide ((x : Int) < (s.size : Int)) = false := by simpa using q1
        clear h1 hout
        go_wp2_with fail
        go_ret
        refine ⟨A, cap, ?_⟩
        rw [HN.out]
        exact ⟨rfl, HO'.out, HB.out⟩

/-- The cells of the harness. -/
def kCellsP (g : Nat) (pl : Value) (n : Nat) (vall : Value) (safe : Nat) (rs bad : Bool) : List Value := [.pointer (some ⟨g, 0, none⟩), pl, .int .i64 (n : Nat), vall, .int .i64 (safe : Nat), .bool rs, .bool bad]
abbrev kCells (g gl n : Nat) (vall : Value) (safe : Nat) (rs bad : Bool) : List Value := kCellsP g (.pointer (some ⟨gl, 0, none⟩)) n vall safe rs bad
/-- The harness in memory. -/
structure KMem (B : Nat) (w : World) (gx g gl n : Nat) (v va vall : Value) (vs : List Value) (d : Pl.Dk) (rd : Int) (l : Pl.Lg) (ss : List ByteArray) (safe : Nat) (rs bad : Bool) : Prop where
  blk : Blk w gx 63 (kCells g gl n vall safe rs bad)
  log : LogSt w gl g v va vs d rd l
  all : w.ownsRow B 9 1 vall ss.length (sv ss)
  low : B ≤ gx ∧ ∀ k, lFa gl g v va k → B ≤ k
theorem KMem.below {B : Nat} {w w' : World} {gx g gl n : Nat} {v va vall : Value} {vs : List Value} {d : Pl.Dk} {rd : Int} {l : Pl.Lg} {ss : List ByteArray} {safe : Nat} {rs bad : Bool} (h : KMem B w gx g gl n v va vall vs d rd l ss safe rs bad) (hb : Below w.heap.size w w') : KMem B w' gx g gl n v va vall vs d rd l ss safe rs bad :=
  ⟨h.blk.below hb h.blk.lt, h.log.below hb, own_below h.all hb, h.low⟩
/-- The log is written. -/
theorem KMem.put {B : Nat} {w w' : World} {gx g gl n : Nat} {v va va' vall : Value} {vs vs' : List Value} {d d' : Pl.Dk} {rd rd' : Int} {l l' : Pl.Lg} {ss : List ByteArray} {safe : Nat} {rs bad : Bool} (h : KMem B w gx g gl n v va vall vs d rd l ss safe rs bad) (hst : LogSt w' gl g v va' vs' d' rd' l') (hsep : Sep w va va') (ho : Only (lFa gl g v va) w w') (hB : B ≤ w.heap.size) :
    KMem B w' gx g gl n v va' vall vs' d' rd' l' ss safe rs bad := by
  have hk := h.log.kinds
  refine ⟨ho.blk_ hk h.blk (by decide), hst, ho.own_ hk h.all (by decide), ⟨h.low.1, fun q hq => ?_⟩⟩
  rcases hq with hq | hq
  · exact h.low.2 q (.inl hq)
  · rcases hsep q hq with e | e
    · exact h.low.2 q (.inr e)
    · omega
/-- A cell of the harness is laid anew. -/
theorem KMem.onlyX {B : Nat} {w w' : World} {gx g gl n n' : Nat} {v va vall vall' : Value} {vs : List Value} {d : Pl.Dk} {rd : Int} {l : Pl.Lg} {ss ss' : List ByteArray} {safe safe' : Nat} {rs bad rs' bad' : Bool} (h : KMem B w gx g gl n v va vall vs d rd l ss safe rs bad) (ho : Only (· = gx) w w') (hb : Blk w' gx 63 (kCells g gl n' vall' safe' rs' bad')) (hall : w.ownsRow B 9 1 vall' ss'.length (sv ss')) :
    KMem B w' gx g gl n' v va vall' vs d rd l ss' safe' rs' bad' := by
  have hk : Kinds (· = gx) w [63] := fun x hx => by
    rw [hx]
    exact ⟨_, by simp, h.blk.typ⟩
  exact ⟨hb, h.log.onlyT ho hk (by decide) (by decide) (by decide) (by decide) (by decide), ho.own_ hk hall (by decide), h.low⟩
theorem KMem.setBad {B : Nat} {w : World} {gx g gl n : Nat} {v va vall : Value} {vs : List Value} {d : Pl.Dk} {rd : Int} {l : Pl.Lg} {ss : List ByteArray} {safe : Nat} {rs bad : Bool} (h : KMem B w gx g gl n v va vall vs d rd l ss safe rs bad) (b : Bool) : KMem B (w.setCell ⟨gx, 6, none⟩ (.bool b)) gx g gl n v va vall vs d rd l ss safe rs b :=
  h.onlyX ((Only.refl (· = gx) w).setCell (p := ⟨gx, 6, none⟩) (.inl rfl) _) (h.blk.set_ 6 _) h.all
theorem KMem.setRs {B : Nat} {w : World} {gx g gl n : Nat} {v va vall : Value} {vs : List Value} {d : Pl.Dk} {rd : Int} {l : Pl.Lg} {ss : List ByteArray} {safe : Nat} {rs bad : Bool} (h : KMem B w gx g gl n v va vall vs d rd l ss safe rs bad) (b : Bool) : KMem B (w.setCell ⟨gx, 5, none⟩ (.bool b)) gx g gl n v va vall vs d rd l ss safe b bad :=
  h.onlyX ((Only.refl (· = gx) w).setCell (p := ⟨gx, 5, none⟩) (.inl rfl) _) (h.blk.set_ 5 _) h.all
theorem KMem.setSafe {B : Nat} {w : World} {gx g gl n : Nat} {v va vall : Value} {vs : List Value} {d : Pl.Dk} {rd : Int} {l : Pl.Lg} {ss : List ByteArray} {safe : Nat} {rs bad : Bool} (h : KMem B w gx g gl n v va vall vs d rd l ss safe rs bad) (k : Nat) : KMem B (w.setCell ⟨gx, 4, none⟩ (.int .i64 (k : Nat))) gx g gl n v va vall vs d rd l ss k rs bad :=
  h.onlyX ((Only.refl (· = gx) w).setCell (p := ⟨gx, 4, none⟩) (.inl rfl) _) (h.blk.set_ 4 _) h.all
theorem KMem.setAll {B : Nat} {w : World} {gx g gl n : Nat} {v va vall vall' : Value} {vs : List Value} {d : Pl.Dk} {rd : Int} {l : Pl.Lg} {ss ss' : List ByteArray} {safe : Nat} {rs bad : Bool} (h : KMem B w gx g gl n v va vall vs d rd l ss safe rs bad) (hall : w.ownsRow B 9 1 vall' ss'.length (sv ss')) : KMem B (w.setCell ⟨gx, 3, none⟩ vall') gx g gl n v va vall' vs d rd l ss' safe rs bad :=
  h.onlyX ((Only.refl (· = gx) w).setCell (p := ⟨gx, 3, none⟩) (.inl rfl) _) (h.blk.set_ 3 _) hall

set_option maxHeartbeats 1000000 in
theorem ktold_died (gx g : Nat) (v c1 c2 c3 c4 c5 c6 : Value) (d : Pl.Dk) (rd : Int) (w : World) (hb : Blk w gx 63 [.pointer (some ⟨g, 0, none⟩), c1, c2, c3, c4, c5, c6]) (hd : DiskAt w g v d rd) (h0 : d.life = 0) :
    Calls Tryd.prog 46 #[.pointer (some ⟨gx, 0, none⟩), errA 3 ⟨#[]⟩] w fun e w' => e = .returned (.bool true) ∧ ∃ w2, Below w.heap.size w w2 ∧ w' = w2.setCell ⟨gx, 6, none⟩ (.bool true) := by
  obtain ⟨w1, hw1⟩ : ∃ w1, w.alloc (.cells #[.int .i64 3, .string ⟨#[]⟩, .bool true] 27) = w1 := ⟨_, rfl⟩
  have hb1 : Below w.heap.size w w1 := by rw [← hw1]; exact (Below.refl _ _).alloc (Nat.le_refl _) _
  have HBX := Lib.hid hb
  have HD := Lib.hid hd
  have HB1 := Lib.hid hb1
  have HL := Lib.hid h0
  obtain ⟨z0, z1, z2, _, _, _⟩ := facts3 (show Blk w1 w.heap.size 27 [.int .i64 3, .string ⟨#[]⟩, .bool true] by rw [← hw1]; exact Blk.new w 27 _)
  clear hb hd hb1 h0
  unfold errA
  go_enter Tryd.func46, Tryd.ntmps46
  go_wp2_with fail
  refine (failed_any 3 _).mono ?_
  rintro e w2 ⟨rfl, hb2⟩
  have hb12 : Below w.heap.size w w2 := HB1.out.trans (hb2.mono HB1.out.size)
  have HD2 := Lib.hid (HD.out.below hb12)
  have hx2 := HBX.out.below hb12 HBX.out.lt
  have k0 := hx2.cell 0
  have k6 := hx2.cell 6
  have f6 := hx2.frozen 6
  simp only [List.getElem?_cons_zero, List.getElem?_cons_succ] at k0 k6
  have HB12 := Lib.hid hb12
  have HDD := Lib.hid (dead_any g v d rd w2 HD2.out)
  rw [HL.out] at HDD
  clear hb2 hb12 hx2 z0 z1 z2
  go_wp2_with fail
  refine HDD.out.mono ?_
  rintro e w3 ⟨rfl, rfl⟩
  go_wp2_with fail
  go_ret
  exact ⟨rfl, w2, HB12.out, rfl⟩
set_option maxHeartbeats 1000000 in
theorem ktold_fine (gx : Nat) (c0 c1 c2 c3 c4 c5 : Value) (w : World) (hb : Blk w gx 63 [c0, c1, c2, c3, c4, c5, .bool false]) :
    Calls Tryd.prog 46 #[.pointer (some ⟨gx, 0, none⟩), errA 0 ⟨#[]⟩] w fun e w' => e = .returned (.bool true) ∧ Below w.heap.size w w' := by
  obtain ⟨w1, hw1⟩ : ∃ w1, w.alloc (.cells #[.int .i64 0, .string ⟨#[]⟩, .bool true] 27) = w1 := ⟨_, rfl⟩
  have hb1 : Below w.heap.size w w1 := by rw [← hw1]; exact (Below.refl _ _).alloc (Nat.le_refl _) _
  have BE : Blk w1 w.heap.size 27 [.int .i64 0, .string ⟨#[]⟩, .bool true] := by rw [← hw1]; exact Blk.new w 27 _
  have HBX := Lib.hid hb
  have HB1 := Lib.hid hb1
  have HBE := Lib.hid BE
  obtain ⟨z0, z1, z2, _, _, _⟩ := facts3 BE
  clear hb hb1 BE
  unfold errA
  go_enter Tryd.func46, Tryd.ntmps46
  go_wp2_with fail
  refine (failed_any 0 _).mono ?_
  rintro e w2 ⟨rfl, hb2⟩
  have hb12 : Below w.heap.size w w2 := HB1.out.trans (hb2.mono HB1.out.size)
  have hx2 := HBX.out.below hb12 HBX.out.lt
  have k6 := hx2.cell 6
  simp only [List.getElem?_cons_zero, List.getElem?_cons_succ] at k6
  have HB12 := Lib.hid hb12
  clear z0 z1 z2
  obtain ⟨z0, z1, z2, _, _, _⟩ := facts3 (HBE.out.below hb2 HBE.out.lt)
  clear hb2 hb12 hx2
  go_wp2_with fail
  refine (fine_any 0 _).mono ?_
  rintro e w3 ⟨rfl, hb3⟩
  have HB13 : Hid (Below w.heap.size w w3) := HB12.out.trans (hb3.mono HB12.out.size)
  clear hb3
  go_wp2_with fail
  go_ret
  exact ⟨rfl, HB13.out⟩
end Go.Proofs.YtljmklohgpaopaaDoor

namespace Go.Proofs.YtljmklohgpaopaaDoor
open Go.RowKit

/-- What the acts keep. -/
def KLog (B : Nat) (w : World) (gx data k : Nat) : Prop :=
  ∃ g gl v va vall vs d rd l ss safe rs bad, KMem B w gx g gl (data + 2) v va vall vs d rd l ss safe rs bad ∧ Pl.KOk d l (bl ss) safe rs bad data ∧ l.epoch ≤ k + 1
def ActPost (B gx data k : Nat) (w : World) (e : Ending) (w' : World) : Prop :=
  e = .returned (.bool true) ∧ KLog B w' gx data (k + 1) ∧ Below B w w'
theorem bl_length (ss : List ByteArray) : (bl ss).length = ss.length := by simp [bl]

set_option maxHeartbeats 2000000 in
set_option maxRecDepth 100000 in
theorem act_sync3 (B gx data k i : Nat) (s : ByteArray) (w : World) (hi : i < s.size) (h : KLog B w gx data k) (hG : GE w) (hGB : 0 < B) (hB : B ≤ w.heap.size) (hk : k ≤ 5000) (hc : s[i].toNat % 8 = 3) :
    Calls Tryd.prog 22 #[.pointer (some ⟨gx, 0, none⟩), .string s, .int .i64 (i : Nat)] w (ActPost B gx data k w) := by
  obtain ⟨g, gl, v, va, vall, vs, d, rd, l, ss, safe, rs, bad, hm, hok, hep⟩ := h
  obtain ⟨c, hcc⟩ : ∃ c, s[i] = c := ⟨_, rfl⟩
  rw [hcc] at hc
  have hq : ∃ q : Nat, q ≤ 31 ∧ ((c.toNat : Nat) : Int).tdiv 8 = (q : Int) := ⟨c.toNat / 8, by have := c.toNat_lt; omega, by rw [Int.tdiv_eq_ediv_of_nonneg (by omega)]; omega⟩
  obtain ⟨q, hq1, hq2⟩ := hq
  have hr : ((c.toNat : Nat) : Int).tmod 8 = 3 := by rw [Int.tmod_eq_emod_of_nonneg (by omega)]; omega
  have hi2 : (i : Int) < (s.size : Int) := by omega
  have hgf : ¬ lFa gl g v va 0 := fun e => by have := hm.low.2 _ e; omega
  obtain ⟨x0, x1, x2, x3, x4, x5, x6, y0, y1, y2, y3, y4, y5, y6⟩ := facts7 hm.blk
  have hS := pSync_any gl g v va vs d rd l w hm.log hG hgf
  have HM := Lib.hid hm
  rcases hok.syncs with ⟨l', d', hs, hok', hep'⟩ | ⟨rfl, d', hs, hok'⟩
  · rw [hs] at hS
    have HS := Lib.hid hS
    have HOK := Lib.hid hok'
    clear hS hok hok' hs hm hG hgf
    go_enter Tryd.func22, Tryd.ntmps22
    go_wp2_with fail
    refine HS.out.mono ?_
    rintro e w2 ⟨rfl, va', vs', hst, hsep, _, ho⟩
    have HX2 := Lib.hid (HM.out.put hst hsep ho hB)
    have HB2 : Hid (Below B w w2) := only_below ho HM.out.low.2 hB
    unfold errA
    obtain ⟨w2a, hw2a⟩ : ∃ w2a, w2.alloc (.cells #[.int .i64 3, .string ⟨#[]⟩, .bool true] 27) = w2a := ⟨_, rfl⟩
    have ha : Below w2.heap.size w2 w2a := by rw [← hw2a]; exact (Below.refl _ _).alloc (Nat.le_refl _) _
    have BE : Blk w2a w2.heap.size 27 [.int .i64 3, .string ⟨#[]⟩, .bool true] := by rw [← hw2a]; exact Blk.new w2 27 _
    obtain ⟨z0, z1, z2, _, _, _⟩ := facts3 BE
    have HXa := Lib.hid (HX2.out.below ha)
    have HBa : Hid (Below B w w2a) := HB2.out.trans (ha.mono (Nat.le_trans hB HB2.out.size))
    clear hst hsep ho ha
    clear x0 x1 x2 x3 x4 x5 x6 y0 y1 y2 y3 y4 y5 y6
    have HTD := Lib.hid (ktold_died gx g v _ _ _ _ _ _ d' rd w2a HXa.out.blk HXa.out.log.disk (HOK.out.life.2 rfl))
    unfold errA at HTD
    go_wp2_with fail
    refine HTD.out.mono ?_
    rintro e w4 ⟨rfl, w3, hb3, hw4⟩
    have HX4 : Hid (KMem B w4 gx g gl (data + 2) v va' vall vs' d' rd l' ss safe rs true) := by rw [hw4]; exact (HXa.out.below hb3).setBad true
    have HB4 : Hid (Below B w w4) := by rw [hw4]; exact (HBa.out.trans (hb3.mono (Nat.le_trans hB HBa.out.size))).setCell (p := ⟨gx, 6, none⟩) HM.out.low.1 _
    clear hb3 hw4 z0 z1 z2
    obtain ⟨x0, x1, x2, x3, x4, x5, x6, y0, y1, y2, y3, y4, y5, y6⟩ := facts7 HX4.out.blk
    go_wp2_with fail
    go_ret
    exact ⟨rfl, ⟨g, gl, v, va', vall, vs', d', rd, l', ss, safe, rs, true, HX4.out, HOK.out, by omega⟩, HB4.out⟩
  · rw [hs] at hS
    obtain ⟨Al, capl, rfl, _, _, _⟩ := own_src hm.all
    have HS := Lib.hid hS
    have HOK := Lib.hid hok'
    clear hS hok hok' hs hm hG hgf
    go_enter Tryd.func22, Tryd.ntmps22
    go_wp2_with fail
    refine HS.out.mono ?_
    rintro e w2 ⟨rfl, va', vs', hst, hsep, _, ho⟩
    have HX2 := Lib.hid (HM.out.put hst hsep ho hB)
    have HB2 : Hid (Below B w w2) := only_below ho HM.out.low.2 hB
    unfold errA
    obtain ⟨w2a, hw2a⟩ : ∃ w2a, w2.alloc (.cells #[.int .i64 0, .string ⟨#[]⟩, .bool true] 27) = w2a := ⟨_, rfl⟩
    have ha : Below w2.heap.size w2 w2a := by rw [← hw2a]; exact (Below.refl _ _).alloc (Nat.le_refl _) _
    have BE : Blk w2a w2.heap.size 27 [.int .i64 0, .string ⟨#[]⟩, .bool true] := by rw [← hw2a]; exact Blk.new w2 27 _
    obtain ⟨z0, z1, z2, _, _, _⟩ := facts3 BE
    have HXa := Lib.hid (HX2.out.below ha)
    have HBa : Hid (Below B w w2a) := HB2.out.trans (ha.mono (Nat.le_trans hB HB2.out.size))
    clear hst hsep ho ha
    clear x0 x1 x2 x3 x4 x5 x6 y0 y1 y2 y3 y4 y5 y6
    have HTF := Lib.hid (ktold_fine gx _ _ _ _ _ _ w2a HXa.out.blk)
    unfold errA at HTF
    go_wp2_with fail
    refine HTF.out.mono ?_
    rintro e w4 ⟨rfl, hb4⟩
    have HX4 := Lib.hid (HXa.out.below hb4)
    have HB4 : Hid (Below B w w4) := HBa.out.trans (hb4.mono (Nat.le_trans hB HBa.out.size))
    clear hb4 z0 z1 z2
    obtain ⟨x0, x1, x2, x3, x4, x5, x6, y0, y1, y2, y3, y4, y5, y6⟩ := facts7 HX4.out.blk
    go_wp2_with fail
    go_ret
    have hok2 := HOK.out
    rw [bl_length] at hok2
    exact ⟨rfl, ⟨g, gl, v, va', _, vs', d', rd, l, ss, ss.length, rs, false, HX4.out.setSafe ss.length, hok2, by omega⟩, HB4.out.setCell (p := ⟨gx, 4, none⟩) HM.out.low.1 _⟩

set_option maxHeartbeats 2000000 in
set_option maxRecDepth 100000 in
theorem act_sync4 (B gx data k i : Nat) (s : ByteArray) (w : World) (hi : i < s.size) (h : KLog B w gx data k) (hG : GE w) (hGB : 0 < B) (hB : B ≤ w.heap.size) (hk : k ≤ 5000) (hc : s[i].toNat % 8 = 4) :
    Calls Tryd.prog 22 #[.pointer (some ⟨gx, 0, none⟩), .string s, .int .i64 (i : Nat)] w (ActPost B gx data k w) := by
  obtain ⟨g, gl, v, va, vall, vs, d, rd, l, ss, safe, rs, bad, hm, hok, hep⟩ := h
  obtain ⟨c, hcc⟩ : ∃ c, s[i] = c := ⟨_, rfl⟩
  rw [hcc] at hc
  have hq : ∃ q : Nat, q ≤ 31 ∧ ((c.toNat : Nat) : Int).tdiv 8 = (q : Int) := ⟨c.toNat / 8, by have := c.toNat_lt; omega, by rw [Int.tdiv_eq_ediv_of_nonneg (by omega)]; omega⟩
  obtain ⟨q, hq1, hq2⟩ := hq
  have hr : ((c.toNat : Nat) : Int).tmod 8 = 4 := by rw [Int.tmod_eq_emod_of_nonneg (by omega)]; omega
  have hi2 : (i : Int) < (s.size : Int) := by omega
  have hgf : ¬ lFa gl g v va 0 := fun e => by have := hm.low.2 _ e; omega
  obtain ⟨x0, x1, x2, x3, x4, x5, x6, y0, y1, y2, y3, y4, y5, y6⟩ := facts7 hm.blk
  have hS := pSync_any gl g v va vs d rd l w hm.log hG hgf
  have HM := Lib.hid hm
  rcases hok.syncs with ⟨l', d', hs, hok', hep'⟩ | ⟨rfl, d', hs, hok'⟩
  · rw [hs] at hS
    have HS := Lib.hid hS
    have HOK := Lib.hid hok'
    clear hS hok hok' hs hm hG hgf
    go_enter Tryd.func22, Tryd.ntmps22
    go_wp2_with fail
    refine HS.out.mono ?_
    rintro e w2 ⟨rfl, va', vs', hst, hsep, _, ho⟩
    have HX2 := Lib.hid (HM.out.put hst hsep ho hB)
    have HB2 : Hid (Below B w w2) := only_below ho HM.out.low.2 hB
    unfold errA
    obtain ⟨w2a, hw2a⟩ : ∃ w2a, w2.alloc (.cells #[.int .i64 3, .string ⟨#[]⟩, .bool true] 27) = w2a := ⟨_, rfl⟩
    have ha : Below w2.heap.size w2 w2a := by rw [← hw2a]; exact (Below.refl _ _).alloc (Nat.le_refl _) _
    have BE : Blk w2a w2.heap.size 27 [.int .i64 3, .string ⟨#[]⟩, .bool true] := by rw [← hw2a]; exact Blk.new w2 27 _
    obtain ⟨z0, z1, z2, _, _, _⟩ := facts3 BE
    have HXa := Lib.hid (HX2.out.below ha)
    have HBa : Hid (Below B w w2a) := HB2.out.trans (ha.mono (Nat.le_trans hB HB2.out.size))
    clear hst hsep ho ha
    clear x0 x1 x2 x3 x4 x5 x6 y0 y1 y2 y3 y4 y5 y6
    have HTD := Lib.hid (ktold_died gx g v _ _ _ _ _ _ d' rd w2a HXa.out.blk HXa.out.log.disk (HOK.out.life.2 rfl))
    unfold errA at HTD
    go_wp2_with fail
    refine HTD.out.mono ?_
    rintro e w4 ⟨rfl, w3, hb3, hw4⟩
    have HX4 : Hid (KMem B w4 gx g gl (data + 2) v va' vall vs' d' rd l' ss safe rs true) := by rw [hw4]; exact (HXa.out.below hb3).setBad true
    have HB4 : Hid (Below B w w4) := by rw [hw4]; exact (HBa.out.trans (hb3.mono (Nat.le_trans hB HBa.out.size))).setCell (p := ⟨gx, 6, none⟩) HM.out.low.1 _
    clear hb3 hw4 z0 z1 z2
    obtain ⟨x0, x1, x2, x3, x4, x5, x6, y0, y1, y2, y3, y4, y5, y6⟩ := facts7 HX4.out.blk
    go_wp2_with fail
    go_ret
    exact ⟨rfl, ⟨g, gl, v, va', vall, vs', d', rd, l', ss, safe, rs, true, HX4.out, HOK.out, by omega⟩, HB4.out⟩
  · rw [hs] at hS
    obtain ⟨Al, capl, rfl, _, _, _⟩ := own_src hm.all
    have HS := Lib.hid hS
    have HOK := Lib.hid hok'
    clear hS hok hok' hs hm hG hgf
    go_enter Tryd.func22, Tryd.ntmps22
    go_wp2_with fail
    refine HS.out.mono ?_
    rintro e w2 ⟨rfl, va', vs', hst, hsep, _, ho⟩
    have HX2 := Lib.hid (HM.out.put hst hsep ho hB)
    have HB2 : Hid (Below B w w2) := only_below ho HM.out.low.2 hB
    unfold errA
    obtain ⟨w2a, hw2a⟩ : ∃ w2a, w2.alloc (.cells #[.int .i64 0, .string ⟨#[]⟩, .bool true] 27) = w2a := ⟨_, rfl⟩
    have ha : Below w2.heap.size w2 w2a := by rw [← hw2a]; exact (Below.refl _ _).alloc (Nat.le_refl _) _
    have BE : Blk w2a w2.heap.size 27 [.int .i64 0, .string ⟨#[]⟩, .bool true] := by rw [← hw2a]; exact Blk.new w2 27 _
    obtain ⟨z0, z1, z2, _, _, _⟩ := facts3 BE
    have HXa := Lib.hid (HX2.out.below ha)
    have HBa : Hid (Below B w w2a) := HB2.out.trans (ha.mono (Nat.le_trans hB HB2.out.size))
    clear hst hsep ho ha
    clear x0 x1 x2 x3 x4 x5 x6 y0 y1 y2 y3 y4 y5 y6
    have HTF := Lib.hid (ktold_fine gx _ _ _ _ _ _ w2a HXa.out.blk)
    unfold errA at HTF
    go_wp2_with fail
    refine HTF.out.mono ?_
    rintro e w4 ⟨rfl, hb4⟩
    have HX4 := Lib.hid (HXa.out.below hb4)
    have HB4 : Hid (Below B w w4) := HBa.out.trans (hb4.mono (Nat.le_trans hB HBa.out.size))
    clear hb4 z0 z1 z2
    obtain ⟨x0, x1, x2, x3, x4, x5, x6, y0, y1, y2, y3, y4, y5, y6⟩ := facts7 HX4.out.blk
    go_wp2_with fail
    go_ret
    have hok2 := HOK.out
    rw [bl_length] at hok2
    exact ⟨rfl, ⟨g, gl, v, va', _, vs', d', rd, l, ss, ss.length, rs, false, HX4.out.setSafe ss.length, hok2, by omega⟩, HB4.out.setCell (p := ⟨gx, 4, none⟩) HM.out.low.1 _⟩

set_option maxHeartbeats 2000000 in
set_option maxRecDepth 100000 in
theorem act_reset (B gx data k i : Nat) (s : ByteArray) (w : World) (hi : i < s.size) (h : KLog B w gx data k) (hG : GE w) (hGB : 0 < B) (hB : B ≤ w.heap.size) (hk : k ≤ 5000) (hc : s[i].toNat % 8 = 5) :
    Calls Tryd.prog 22 #[.pointer (some ⟨gx, 0, none⟩), .string s, .int .i64 (i : Nat)] w (ActPost B gx data k w) := by
  obtain ⟨g, gl, v, va, vall, vs, d, rd, l, ss, safe, rs, bad, hm, hok, hep⟩ := h
  obtain ⟨c, hcc⟩ : ∃ c, s[i] = c := ⟨_, rfl⟩
  rw [hcc] at hc
  have hq : ∃ q : Nat, q ≤ 31 ∧ ((c.toNat : Nat) : Int).tdiv 8 = (q : Int) := ⟨c.toNat / 8, by have := c.toNat_lt; omega, by rw [Int.tdiv_eq_ediv_of_nonneg (by omega)]; omega⟩
  obtain ⟨q, hq1, hq2⟩ := hq
  have hr : ((c.toNat : Nat) : Int).tmod 8 = 5 := by rw [Int.tmod_eq_emod_of_nonneg (by omega)]; omega
  have hi2 : (i : Int) < (s.size : Int) := by omega
  have hgf : ¬ lFa gl g v va 0 := fun e => by have := hm.low.2 _ e; omega
  obtain ⟨x0, x1, x2, x3, x4, x5, x6, y0, y1, y2, y3, y4, y5, y6⟩ := facts7 hm.blk
  have hroom : l.first + 2 ≤ d.secs.length := by
    obtain ⟨_, _, hh, _⟩ := hok.held
    have := hh.room
    have := hok.first
    omega
  have hep' : l.epoch + 2 < 256 ^ 8 := by have := pow8; omega
  have hS := pReset_any gl g v va vs d rd l w hm.log hG hgf hroom (by have := pow8; omega)
  have HM := Lib.hid hm
  rcases hok.resets_ hep' with ⟨l', d', hs, hok', hep2⟩ | ⟨rfl, rfl, l', d', hs, hok', hep2⟩
  · rw [hs] at hS
    have HS := Lib.hid hS
    have HOK := Lib.hid hok'
    clear hS hok hok' hs hm hG hgf hep'
    go_enter Tryd.func22, Tryd.ntmps22
    go_wp2_with fail
    refine HS.out.mono ?_
    rintro e w2 ⟨rfl, va', vs', hst, hsep, _, ho⟩
    have HX2 := Lib.hid (HM.out.put hst hsep ho hB)
    have HB2 : Hid (Below B w w2) := only_below ho HM.out.low.2 hB
    unfold errA
    obtain ⟨w2a, hw2a⟩ : ∃ w2a, w2.alloc (.cells #[.int .i64 3, .string ⟨#[]⟩, .bool true] 27) = w2a := ⟨_, rfl⟩
    have ha : Below w2.heap.size w2 w2a := by rw [← hw2a]; exact (Below.refl _ _).alloc (Nat.le_refl _) _
    have BE : Blk w2a w2.heap.size 27 [.int .i64 3, .string ⟨#[]⟩, .bool true] := by rw [← hw2a]; exact Blk.new w2 27 _
    obtain ⟨z0, z1, z2, _, _, _⟩ := facts3 BE
    have HXa := Lib.hid (HX2.out.below ha)
    have HBa : Hid (Below B w w2a) := HB2.out.trans (ha.mono (Nat.le_trans hB HB2.out.size))
    clear hst hsep ho ha
    clear x0 x1 x2 x3 x4 x5 x6 y0 y1 y2 y3 y4 y5 y6
    have HTD := Lib.hid (ktold_died gx g v _ _ _ _ _ _ d' rd w2a HXa.out.blk HXa.out.log.disk (HOK.out.life.2 rfl))
    unfold errA at HTD
    go_wp2_with fail
    refine HTD.out.mono ?_
    rintro e w4 ⟨rfl, w3, hb3, hw4⟩
    have HX4 : Hid (KMem B w4 gx g gl (data + 2) v va' vall vs' d' rd l' ss safe rs true) := by rw [hw4]; exact (HXa.out.below hb3).setBad true
    have HB4 : Hid (Below B w w4) := by rw [hw4]; exact (HBa.out.trans (hb3.mono (Nat.le_trans hB HBa.out.size))).setCell (p := ⟨gx, 6, none⟩) HM.out.low.1 _
    clear hb3 hw4 z0 z1 z2
    obtain ⟨x0, x1, x2, x3, x4, x5, x6, y0, y1, y2, y3, y4, y5, y6⟩ := facts7 HX4.out.blk
    cases rs
    · cases bad
      · go_wp2_with fail
        go_ret
        exact ⟨rfl, ⟨g, gl, v, va', vall, vs', d', rd, l', ss, safe, true, true, HX4.out.setRs true, HOK.out, by omega⟩, HB4.out.setCell (p := ⟨gx, 5, none⟩) HM.out.low.1 _⟩
      · go_wp2_with fail
        go_ret
        exact ⟨rfl, ⟨g, gl, v, va', vall, vs', d', rd, l', ss, safe, false, true, HX4.out.setRs false, HOK.out, by omega⟩, HB4.out.setCell (p := ⟨gx, 5, none⟩) HM.out.low.1 _⟩
    · go_wp2_with fail
      go_ret
      exact ⟨rfl, ⟨g, gl, v, va', vall, vs', d', rd, l', ss, safe, true, true, HX4.out.setRs true, HOK.out, by omega⟩, HB4.out.setCell (p := ⟨gx, 5, none⟩) HM.out.low.1 _⟩
  · rw [hs] at hS
    have HS := Lib.hid hS
    have HOK := Lib.hid hok'
    clear hS hok hok' hs hm hG hgf hep'
    go_enter Tryd.func22, Tryd.ntmps22
    go_wp2_with fail
    refine HS.out.mono ?_
    rintro e w2 ⟨rfl, va', vs', hst, hsep, _, ho⟩
    have HX2 := Lib.hid (HM.out.put hst hsep ho hB)
    have HB2 : Hid (Below B w w2) := only_below ho HM.out.low.2 hB
    unfold errA
    obtain ⟨w2a, hw2a⟩ : ∃ w2a, w2.alloc (.cells #[.int .i64 0, .string ⟨#[]⟩, .bool true] 27) = w2a := ⟨_, rfl⟩
    have ha : Below w2.heap.size w2 w2a := by rw [← hw2a]; exact (Below.refl _ _).alloc (Nat.le_refl _) _
    have BE : Blk w2a w2.heap.size 27 [.int .i64 0, .string ⟨#[]⟩, .bool true] := by rw [← hw2a]; exact Blk.new w2 27 _
    obtain ⟨z0, z1, z2, _, _, _⟩ := facts3 BE
    have HXa := Lib.hid (HX2.out.below ha)
    have HBa : Hid (Below B w w2a) := HB2.out.trans (ha.mono (Nat.le_trans hB HB2.out.size))
    clear hst hsep ho ha
    clear x0 x1 x2 x3 x4 x5 x6 y0 y1 y2 y3 y4 y5 y6
    have HTF := Lib.hid (ktold_fine gx _ _ _ _ _ _ w2a HXa.out.blk)
    unfold errA at HTF
    go_wp2_with fail
    refine HTF.out.mono ?_
    rintro e w4 ⟨rfl, hb4⟩
    have HX4 := Lib.hid (HXa.out.below hb4)
    have HB4 : Hid (Below B w w4) := HBa.out.trans (hb4.mono (Nat.le_trans hB HBa.out.size))
    clear hb4 z0 z1 z2
    obtain ⟨x0, x1, x2, x3, x4, x5, x6, y0, y1, y2, y3, y4, y5, y6⟩ := facts7 HX4.out.blk
    go_wp2_with fail
    go_ret
    exact ⟨rfl, ⟨g, gl, v, va', _, vs', d', rd, l', [], 0, false, false, ((HX4.out.setAll (ss' := []) (World.ownsRow_nil _ _ _ _)).setSafe 0).setRs false, HOK.out, by omega⟩, ((HB4.out.setCell (p := ⟨gx, 3, none⟩) HM.out.low.1 _).setCell (p := ⟨gx, 4, none⟩) HM.out.low.1 _).setCell (p := ⟨gx, 5, none⟩) HM.out.low.1 _⟩

set_option maxHeartbeats 2000000 in
set_option maxRecDepth 100000 in
theorem act_die (B gx data k i : Nat) (s : ByteArray) (w : World) (hi : i < s.size) (h : KLog B w gx data k) (hG : GE w) (hGB : 0 < B) (hB : B ≤ w.heap.size) (hk : k ≤ 5000) (hc : s[i].toNat % 8 = 6) :
    Calls Tryd.prog 22 #[.pointer (some ⟨gx, 0, none⟩), .string s, .int .i64 (i : Nat)] w (ActPost B gx data k w) := by
  obtain ⟨g, gl, v, va, vall, vs, d, rd, l, ss, safe, rs, bad, hm, hok, hep⟩ := h
  obtain ⟨c, hcc⟩ : ∃ c, s[i] = c := ⟨_, rfl⟩
  rw [hcc] at hc
  have hq : ∃ q : Nat, q ≤ 31 ∧ ((c.toNat : Nat) : Int).tdiv 8 = (q : Int) := ⟨c.toNat / 8, by have := c.toNat_lt; omega, by rw [Int.tdiv_eq_ediv_of_nonneg (by omega)]; omega⟩
  obtain ⟨q, hq1, hq2⟩ := hq
  have hr : ((c.toNat : Nat) : Int).tmod 8 = 6 := by rw [Int.tmod_eq_emod_of_nonneg (by omega)]; omega
  have hi2 : (i : Int) < (s.size : Int) := by omega
  have hgf : ¬ lFa gl g v va 0 := fun e => by have := hm.low.2 _ e; omega
  obtain ⟨x0, x1, x2, x3, x4, x5, x6, y0, y1, y2, y3, y4, y5, y6⟩ := facts7 hm.blk
  have hq7 : ((q : Nat) : Int).tmod 7 = ((q % 7 : Nat) : Int) := by rw [Int.tmod_eq_emod_of_nonneg (by omega)]; omega
  obtain ⟨m, hmm⟩ : ∃ m, q % 7 = m := ⟨_, rfl⟩
  have hm7 : m ≤ 6 := by omega
  rw [hmm] at hq7
  have HDI := Lib.hid (die_any g v d rd (1 + (m : Int)) w hm.log.disk ⟨by omega, by omega⟩)
  have hok' := hok.dies (1 + (m : Int)) ⟨by omega, by omega⟩
  have HM := Lib.hid hm
  have HOK := Lib.hid hok'
  clear hok hok' hm hG hgf
  go_enter Tryd.func22, Tryd.ntmps22
  go_wp2_with fail
  refine HDI.out.mono ?_
  rintro e w2 ⟨rfl, hd2, ho2⟩
  have ho := ho2.mono (fun x _ e => (.inl (.inl e) : lFa gl g v va x))
  have HX2 := Lib.hid (HM.out.put (HM.out.log.disked hd2 ho2) (Sep.refl _ _) ho hB)
  have HB2 : Hid (Below B w w2) := only_below ho HM.out.low.2 hB
  clear hd2 ho2 ho
  go_wp2_with fail
  go_ret
  exact ⟨rfl, ⟨g, gl, v, va, vall, vs, _, rd, l, ss, safe, rs, bad, HX2.out, HOK.out, by omega⟩, HB2.out⟩
end Go.Proofs.YtljmklohgpaopaaDoor
