/- The harness's act on a log: Append. -/
import Derived.Test.YtljmklohgpaopaaDoorMgLogged15
set_option linter.unusedVariables false
set_option linter.unusedSimpArgs false

namespace Go.Proofs.YtljmklohgpaopaaDoor
open Go.RowKit

theorem KMem.grewAll {B : Nat} {w w' : World} {gx g gl n : Nat} {v va vall v8 : Value} {vs : List Value} {d : Pl.Dk} {rd : Int} {l : Pl.Lg} {ss ss' : List ByteArray} {safe : Nat} {rs bad : Bool} (h : KMem B w gx g gl n v va vall vs d rd l ss safe rs bad) (hg : w.grownBy w' vall.ownBlock) (hown : w'.ownsRow B 9 1 v8 ss'.length (sv ss')) :
    KMem B (w'.setCell ⟨gx, 3, none⟩ v8) gx g gl n v va v8 vs d rd l ss' safe rs bad ∧ Blk w' gx 63 (kCells g gl n vall safe rs bad) ∧ Only (fun x => vall.ownBlock = some x) w w' := by
  have ho : Only (fun x => vall.ownBlock = some x) w w' := Only.of_grown_own hg
  have hk : Kinds (fun x => vall.ownBlock = some x) w [9] := fun x hx => ⟨_, by simp, own_typ h.all hx⟩
  have hb := ho.blk_ hk h.blk (by decide)
  have hlog : LogSt w' gl g v va vs d rd l := h.log.onlyT ho hk (by decide) (by decide) (by decide) (by decide) (by decide)
  have ho2 : Only (· = gx) w' (w'.setCell ⟨gx, 3, none⟩ v8) := (Only.refl (· = gx) w').setCell (p := ⟨gx, 3, none⟩) (.inl rfl) _
  have hk2 : Kinds (· = gx) w' [63] := fun x hx => by
    rw [hx]
    exact ⟨_, by simp, hb.typ⟩
  exact ⟨⟨hb.set_ 3 _, hlog.onlyT ho2 hk2 (by decide) (by decide) (by decide) (by decide) (by decide), ho2.own_ hk2 hown (by decide), h.low⟩, hb, ho⟩

set_option maxHeartbeats 2000000 in
set_option maxRecDepth 100000 in
theorem act_append0 (B gx data k i : Nat) (s : ByteArray) (w : World) (hi : i < s.size) (h : KLog B w gx data k) (hG : GE w) (hGB : 0 < B) (hB : B ≤ w.heap.size) (hk : k ≤ 5000) (hc : s[i].toNat % 8 = 0) :
    Calls Tryd.prog 22 #[.pointer (some ⟨gx, 0, none⟩), .string s, .int .i64 (i : Nat)] w (ActPost B gx data k w) := by
  obtain ⟨g, gl, v, va, vall, vs, d, rd, l, ss, safe, rs, bad, hm, hok, hep⟩ := h
  obtain ⟨c, hcc⟩ : ∃ c, s[i] = c := ⟨_, rfl⟩
  rw [hcc] at hc
  have hq : ∃ q : Nat, q ≤ 31 ∧ ((c.toNat : Nat) : Int).tdiv 8 = (q : Int) := ⟨c.toNat / 8, by have := c.toNat_lt; omega, by rw [Int.tdiv_eq_ediv_of_nonneg (by omega)]; omega⟩
  obtain ⟨q, hq1, hq2⟩ := hq
  have hr : ((c.toNat : Nat) : Int).tmod 8 = 0 := by rw [Int.tmod_eq_emod_of_nonneg (by omega)]; omega
  have hi2 : (i : Int) < (s.size : Int) := by omega
  have hgf : ¬ lFa gl g v va 0 := fun e => by have := hm.low.2 _ e; omega
  obtain ⟨x0, x1, x2, x3, x4, x5, x6, y0, y1, y2, y3, y4, y5, y6⟩ := facts7 hm.blk
  obtain ⟨m, hmq⟩ : ∃ m, q * (1 + q) = m := ⟨_, rfl⟩
  have hm992 : m ≤ 992 := by
    rw [← hmq]
    exact Nat.mul_le_mul hq1 (by omega : 1 + q ≤ 32)
  have hmi : ((q : Nat) : Int) * (1 + ((q : Nat) : Int)) = (m : Int) := by rw [← hmq]; push_cast; rfl
  have hmk := make_bytes (1 + (m : Int)) (m + 1) (by omega) (by omega)
  have hpos : (0 : Int) ≤ 1 + (m : Int) := by omega
  obtain ⟨Al, capl, rfl, _, _, _⟩ := own_src hm.all
  obtain ⟨u8v, hu8⟩ : ∃ u : UInt8, ((u.toNat : Nat) : Int) = IntKind.u8.wrap ((ss.length : Nat) : Int) := ⟨UInt8.ofNat ss.length, by simp [IntKind.wrap, IntKind.signed, IntKind.bits]⟩
  obtain ⟨p, hp⟩ : ∃ p, ((Pl.zeros (m + 1)).set 0 c).set m u8v = p := ⟨_, rfl⟩
  have hpl : p.length = m + 1 := by rw [← hp]; simp [Pl.zeros]
  obtain ⟨wa, hwa⟩ : ∃ wa, w.alloc (.cells ((zrow (m + 1)).set 0 (.int .u8 ((c.toNat : Nat) : Int))).toArray 5) = wa := ⟨_, rfl⟩
  have hba : Below w.heap.size w wa := by rw [← hwa]; exact (Below.refl _ _).alloc (Nat.le_refl _) _
  have hNa : Blk wa w.heap.size 5 ((zrow (m + 1)).set 0 (.int .u8 ((c.toNat : Nat) : Int))) := by rw [← hwa]; exact Blk.new w 5 _
  have hxm : ∃ x, wa.cell? ⟨w.heap.size, m, none⟩ = some x := by
    rw [hNa.cell m]
    exact ⟨_, List.getElem?_eq_getElem (by rw [List.length_set]; simp [zrow])⟩
  obtain ⟨xm, hxm⟩ := hxm
  have qm := hNa.frozen m
  have hN1 : Blk (wa.setCell ⟨w.heap.size, m, none⟩ (.int .u8 ((u8v.toNat : Nat) : Int))) w.heap.size 5 (bv p) := by
    have h1 := hNa.set_ m (.int .u8 ((u8v.toNat : Nat) : Int))
    have h2 : ((zrow (m + 1)).set 0 (.int .u8 ((c.toNat : Nat) : Int))).set m (.int .u8 ((u8v.toNat : Nat) : Int)) = bv p := by
      rw [← hp]
      unfold bv Pl.zeros zrow
      rw [List.map_set, List.map_set, List.map_replicate]
      rfl
    rw [← h2]
    exact h1
  have hma := hm.below hba
  obtain ⟨w1, hw1⟩ : ∃ w1, wa.setCell ⟨w.heap.size, m, none⟩ (.int .u8 ((u8v.toNat : Nat) : Int)) = w1 := ⟨_, rfl⟩
  rw [hw1] at hN1
  have hb1 : Below w.heap.size w w1 := by rw [← hw1]; exact hba.setCell (p := ⟨w.heap.size, m, none⟩) (Nat.le_refl _) _
  have hm1 := hm.below hb1
  have hfit : l.first + 2 + l.data ≤ d.secs.length := by
    obtain ⟨_, _, hh, _⟩ := hok.held
    have := hh.room
    have := hok.first
    have := hok.dat
    omega
  have hsm := hm.log.cells.small
  have hcnt := Pl.flat_count l.all (fun p hp => (hok.small p hp).1)
  have hnx := hok.next
  have hlt : ∀ q, lFa gl g v va q → q < w.heap.size := hm.log.lt
  have hS := pAppend_any gl g v va vs d rd l p (some ⟨w.heap.size, 0, none⟩) (m + 1) w1 hm1.log (hG.below hb1) hgf (Src.of_blk hN1).bytes (fun q hq => by
    injection hq with hq
    rw [← hq]
    exact ⟨hN1.lt, fun e => Nat.lt_irrefl _ (hlt _ e)⟩) (by omega) (by omega) hfit (by omega)
  rw [hpl] at hS
  obtain ⟨i0, hi0, hz0, hz1, hz2⟩ := info_parts Tryd.infoString
  have HI := Lib.hid (And.intro hi0 (And.intro hz0 (And.intro hz1 hz2)))
  have HM := Lib.hid hm
  have HM1 := Lib.hid hm1
  have HN1 := Lib.hid hN1
  have HB1 : Hid (Below B w w1) := hb1.mono hB
  have HPL := Lib.hid hpl
  have hu8' := hu8.symm
  obtain ⟨t0, t1, t2, t3, t4, t5, t6, _, _, _, _, _, _, _⟩ := facts7 hma.blk
  clear x0 x1 x2 x3 x4 x5 x6 y0 y1 y2 y3 y4 y5 y6
  obtain ⟨x0, x1, x2, x3, x4, x5, x6, y0, y1, y2, y3, y4, y5, y6⟩ := facts7 hm1.blk
  have hap := hok.appends p ⟨by omega, by omega⟩
  have hcount := hok.count
  have hda := hok.dat
  have HK := Lib.hid hok
  clear hm hma hm1 hba hb1 hNa hN1 hok hG hfit hcnt hnx hlt hp hi0 hz0 hz1 hz2 hu8
  rcases hap with hap | ⟨rfl, hap⟩ | ⟨rfl, l', d', hap, hok', hep'⟩ | ⟨rfl, l', d', hap, hok', hep'⟩
  · rw [hap] at hS
    have HS := Lib.hid hS
    clear hS hap hpl
    go_enter Tryd.func22, Tryd.ntmps22
    go_wp2_with fail
    refine HS.out.mono ?_
    rintro e w2 ⟨rfl, va', vs', hst, hsep, _, ho⟩
    have HX2 := Lib.hid (HM1.out.put hst hsep ho (Nat.le_trans hB HB1.out.size))
    have HN2 := Lib.hid (ho.blk_ HM1.out.log.kinds HN1.out (by decide))
    have HB2 : Hid (Below B w w2) := HB1.out.trans (only_below ho HM.out.low.2 (Nat.le_trans hB HB1.out.size))
    unfold errA
    obtain ⟨w2a, hw2a⟩ : ∃ w2a, w2.alloc (.cells #[.int .i64 5, .string ⟨#[]⟩, .bool true] 27) = w2a := ⟨_, rfl⟩
    have ha : Below w2.heap.size w2 w2a := by rw [← hw2a]; exact (Below.refl _ _).alloc (Nat.le_refl _) _
    have BE : Blk w2a w2.heap.size 27 [.int .i64 5, .string ⟨#[]⟩, .bool true] := by rw [← hw2a]; exact Blk.new w2 27 _
    obtain ⟨z0, z1, z2, _, _, _⟩ := facts3 BE
    have HXa := Lib.hid (HX2.out.below ha)
    have HBa : Hid (Below B w w2a) := HB2.out.trans (ha.mono (Nat.le_trans hB HB2.out.size))
    have HN2a := Lib.hid (HN2.out.below ha HN2.out.lt)
    clear hst hsep ho ha
    clear x0 x1 x2 x3 x4 x5 x6 y0 y1 y2 y3 y4 y5 y6
    obtain ⟨x0, x1, x2, x3, x4, x5, x6, y0, y1, y2, y3, y4, y5, y6⟩ := facts7 HXa.out.blk
    go_wp2_with fail
    go_ret
    exact ⟨rfl, ⟨g, gl, v, va', _, vs', d, rd, l, ss, safe, rs, bad, HXa.out, HK.out, by omega⟩, HBa.out⟩
  · rw [hap] at hS
    have HS := Lib.hid hS
    clear hS hap hpl
    go_enter Tryd.func22, Tryd.ntmps22
    go_wp2_with fail
    refine HS.out.mono ?_
    rintro e w2 ⟨rfl, va', vs', hst, hsep, _, ho⟩
    have HX2 := Lib.hid (HM1.out.put hst hsep ho (Nat.le_trans hB HB1.out.size))
    have HN2 := Lib.hid (ho.blk_ HM1.out.log.kinds HN1.out (by decide))
    have HB2 : Hid (Below B w w2) := HB1.out.trans (only_below ho HM.out.low.2 (Nat.le_trans hB HB1.out.size))
    unfold errA
    obtain ⟨w2a, hw2a⟩ : ∃ w2a, w2.alloc (.cells #[.int .i64 3, .string ⟨#[]⟩, .bool true] 27) = w2a := ⟨_, rfl⟩
    have ha : Below w2.heap.size w2 w2a := by rw [← hw2a]; exact (Below.refl _ _).alloc (Nat.le_refl _) _
    have BE : Blk w2a w2.heap.size 27 [.int .i64 3, .string ⟨#[]⟩, .bool true] := by rw [← hw2a]; exact Blk.new w2 27 _
    obtain ⟨z0, z1, z2, _, _, _⟩ := facts3 BE
    have HXa := Lib.hid (HX2.out.below ha)
    have HBa : Hid (Below B w w2a) := HB2.out.trans (ha.mono (Nat.le_trans hB HB2.out.size))
    have HN2a := Lib.hid (HN2.out.below ha HN2.out.lt)
    clear hst hsep ho ha
    clear x0 x1 x2 x3 x4 x5 x6 y0 y1 y2 y3 y4 y5 y6
    obtain ⟨x0, x1, x2, x3, x4, x5, x6, y0, y1, y2, y3, y4, y5, y6⟩ := facts7 HXa.out.blk
    have HTD := Lib.hid (ktold_died gx g v _ _ _ _ _ _ d rd w2a HXa.out.blk HXa.out.log.disk (HK.out.life.2 rfl))
    unfold errA at HTD
    go_wp2_with fail
    refine HTD.out.mono ?_
    rintro e w4 ⟨rfl, w3, hb3, hw4⟩
    have HX4 : Hid (KMem B w4 gx g gl (data + 2) v va' (.slice Al ss.length capl) vs' d rd l ss safe rs true) := by rw [hw4]; exact (HXa.out.below hb3).setBad true
    have HB4 : Hid (Below B w w4) := by rw [hw4]; exact (HBa.out.trans (hb3.mono (Nat.le_trans hB HBa.out.size))).setCell (p := ⟨gx, 6, none⟩) HM.out.low.1 _
    clear hb3 hw4 z0 z1 z2 x0 x1 x2 x3 x4 x5 x6 y0 y1 y2 y3 y4 y5 y6
    obtain ⟨x0, x1, x2, x3, x4, x5, x6, y0, y1, y2, y3, y4, y5, y6⟩ := facts7 HX4.out.blk
    go_wp2_with fail
    go_ret
    exact ⟨rfl, ⟨g, gl, v, va', _, vs', d, rd, l, ss, safe, rs, true, HX4.out, HK.out, by omega⟩, HB4.out⟩
  · rw [hap] at hS
    have HS := Lib.hid hS
    have HOK := Lib.hid hok'
    have hss : ss.length ≤ 4097 := by
      rcases hcount with h | h
      · have := bl_length ss
        omega
      · cases h
    have h63 : Hid (ss.length + 1 ≤ maxLen) := by rw [Hid]; simp only [maxLen]; omega
    have hroom := Lib.hid (string_room (n := ss.length) (m := 1) (by omega))
    clear hS hap hok' hpl
    go_enter Tryd.func22, Tryd.ntmps22
    go_wp2_with fail
    refine HS.out.mono ?_
    rintro e w2 ⟨rfl, va', vs', hst, hsep, _, ho⟩
    have HX2 := Lib.hid (HM1.out.put hst hsep ho (Nat.le_trans hB HB1.out.size))
    have HN2 := Lib.hid (ho.blk_ HM1.out.log.kinds HN1.out (by decide))
    have HB2 : Hid (Below B w w2) := HB1.out.trans (only_below ho HM.out.low.2 (Nat.le_trans hB HB1.out.size))
    unfold errA
    obtain ⟨w2a, hw2a⟩ : ∃ w2a, w2.alloc (.cells #[.int .i64 3, .string ⟨#[]⟩, .bool true] 27) = w2a := ⟨_, rfl⟩
    have ha : Below w2.heap.size w2 w2a := by rw [← hw2a]; exact (Below.refl _ _).alloc (Nat.le_refl _) _
    have BE : Blk w2a w2.heap.size 27 [.int .i64 3, .string ⟨#[]⟩, .bool true] := by rw [← hw2a]; exact Blk.new w2 27 _
    obtain ⟨z0, z1, z2, _, _, _⟩ := facts3 BE
    have HXa := Lib.hid (HX2.out.below ha)
    have HBa : Hid (Below B w w2a) := HB2.out.trans (ha.mono (Nat.le_trans hB HB2.out.size))
    have HN2a := Lib.hid (HN2.out.below ha HN2.out.lt)
    clear hst hsep ho ha
    clear x0 x1 x2 x3 x4 x5 x6 y0 y1 y2 y3 y4 y5 y6
    obtain ⟨x0, x1, x2, x3, x4, x5, x6, y0, y1, y2, y3, y4, y5, y6⟩ := facts7 HXa.out.blk
    have HTD := Lib.hid (ktold_died gx g v _ _ _ _ _ _ d' rd w2a HXa.out.blk HXa.out.log.disk (HOK.out.life.2 rfl))
    unfold errA at HTD
    go_wp2_with fail
    refine HTD.out.mono ?_
    rintro e w4 ⟨rfl, w3, hb3, hw4⟩
    have HX4 : Hid (KMem B w4 gx g gl (data + 2) v va' (.slice Al ss.length capl) vs' d' rd l' ss safe rs true) := by rw [hw4]; exact (HXa.out.below hb3).setBad true
    have HB4 : Hid (Below B w w4) := by rw [hw4]; exact (HBa.out.trans (hb3.mono (Nat.le_trans hB HBa.out.size))).setCell (p := ⟨gx, 6, none⟩) HM.out.low.1 _
    have HN4 : Hid (Blk w4 w.heap.size 5 (bv p)) := by
      rw [hw4]
      have h1 := HN2a.out.below hb3 HN2a.out.lt
      have h2 := (HXa.out.below hb3).blk
      refine ((Only.refl (· = gx) w3).setCell (p := ⟨gx, 6, none⟩) (.inl rfl) (.bool true)).blk h1 (fun e => ?_)
      have := h2.typ.uniq (e ▸ h1.typ)
      revert this
      decide
    clear hb3 hw4 z0 z1 z2 x0 x1 x2 x3 x4 x5 x6 y0 y1 y2 y3 y4 y5 y6
    obtain ⟨x0, x1, x2, x3, x4, x5, x6, y0, y1, y2, y3, y4, y5, y6⟩ := facts7 HX4.out.blk
    go_wp2_with fail
    have S4d : Hid (BytesAt w4.drew (some ⟨w.heap.size, 0, none⟩) p) := (Src.of_blk HN4.out.drew).bytes
    refine wp_region_held_drew (S := (fun W : World => BytesAt W (some ⟨w.heap.size, 0, none⟩) p)) (by kernel_rfl) S4d.out (fun hHeld => ?_)
    refine wpAnyH_take (i := 0) (oi := _) (v := ?_) rfl (by kernel_rfl) (by kernel_rfl) (by kernel_rfl) (fun _ _ _ h => h) (Or.inl ⟨by rfl, ?_⟩) (by assumption) ?_
    rotate_left
    · intro W hSw
      (try dsimp only at hSw)
      go_simp
      rfl
    (try simp only [Act.put, List.getElem_toArray, List.getElem_cons_succ, List.getElem_cons_zero, List.setIfInBounds_toArray, List.set_cons_zero, List.set_cons_succ])
    refine wpAnyH_take (i := 1) (oi := _) (v := ?_) rfl (by kernel_rfl) (by kernel_rfl) (by kernel_rfl) (fun _ _ _ h => h) (Or.inl ⟨by rfl, ?_⟩) (by assumption) ?_
    rotate_left
    · intro W hSw
      (try dsimp only at hSw)
      go_simp
      rfl
    (try simp only [Act.put, List.getElem_toArray, List.getElem_cons_succ, List.getElem_cons_zero, List.setIfInBounds_toArray, List.set_cons_zero, List.set_cons_succ])
    refine wpAnyH_take (i := 2) (oi := _) (v := ?_) rfl (by kernel_rfl) (by kernel_rfl) (by kernel_rfl) (fun _ _ _ h => h) (Or.inl ⟨by rfl, ?_⟩) (by assumption) ?_
    rotate_left
    · intro W hSw
      (try dsimp only at hSw)
      go_simp
      rfl
    (try simp only [Act.put, List.getElem_toArray, List.getElem_cons_succ, List.getElem_cons_zero, List.setIfInBounds_toArray, List.set_cons_zero, List.set_cons_succ])
    refine wpAnyH_take (i := 3) (oi := _) (v := ?_) rfl (by kernel_rfl) (by kernel_rfl) (by kernel_rfl) (fun _ _ _ h => h) (Or.inl ⟨by rfl, ?_⟩) (by assumption) ?_
    rotate_left
    · intro W hSw
      (try dsimp only at hSw)
      go_simp
      rfl
    (try simp only [Act.put, List.getElem_toArray, List.getElem_cons_succ, List.getElem_cons_zero, List.setIfInBounds_toArray, List.set_cons_zero, List.set_cons_succ])
    refine wpAnyH_take (i := 5) (oi := _) (v := ?_) rfl (by kernel_rfl) (by kernel_rfl) (by kernel_rfl) (fun _ _ _ h => h) (Or.inl ⟨by rfl, ?_⟩) (by assumption) ?_
    rotate_left
    · intro W hSw
      (try dsimp only at hSw)
      go_simp
      rfl
    (try simp only [Act.put, List.getElem_toArray, List.getElem_cons_succ, List.getElem_cons_zero, List.setIfInBounds_toArray, List.set_cons_zero, List.set_cons_succ])
    refine wpAnyH_take (i := 6) (oi := _) (v := ?_) rfl (by kernel_rfl) (by kernel_rfl) (by kernel_rfl) (fun _ _ _ h => h) (Or.inl ⟨by rfl, ?_⟩) (by assumption) ?_
    rotate_left
    · intro W hSw
      have hcv := run_tostr W (some ⟨w.heap.size, 0, none⟩) p (m + 1) hSw
      rw [HPL.out] at hcv
      go_simp
      rfl
    (try simp only [Act.put, List.getElem_toArray, List.getElem_cons_succ, List.getElem_cons_zero, List.setIfInBounds_toArray, List.set_cons_zero, List.set_cons_succ])
    refine wpAnyH_ready (rs := [4, 7]) (by kernel_rfl) (by simp) ?_
    refine AllReadyH.cons (o := _) rfl (fun K hK => ?_) ?_
    · go_simp
      refine hK.out _ _ S4d.out (fun _ => ?_)
      clear hK K
      (try simp only [Act.put, List.getElem_toArray, List.getElem_cons_succ, List.getElem_cons_zero, List.setIfInBounds_toArray, List.set_cons_zero, List.set_cons_succ])
      refine wpAnyH_ready (rs := [7]) (by kernel_rfl) (by simp) ?_
      refine AllReadyH.cons (o := _) rfl (fun K hK => ?_) AllReadyH.nil
      go_simp
      obtain ⟨w7, hw7⟩ : ∃ w7, (w4.alloc (.cells #[.string (tstr p)] 9)).drew = w7 := ⟨_, rfl⟩
      have hb7 : Below w4.heap.size w4 w7 := by rw [← hw7]; exact Below.drew ((Below.refl _ _).alloc (Nat.le_refl _) _)
      have HSR7 : Hid (Src w7 (some ⟨w4.heap.size, 0, none⟩) [.string (tstr p)]) := by rw [Hid, ← hw7]; exact Src.of_blk (w := (w4.alloc (.cells #[.string (tstr p)] 9)).drew) (Blk.new w4 9 [.string (tstr p)])
      have HX7 := Lib.hid (HX4.out.below hb7)
      have HN7 := Lib.hid (HN4.out.below hb7 HN4.out.lt)
      have HB7 : Hid (Below B w w7) := HB4.out.trans (hb7.mono (Nat.le_trans hB HB4.out.size))
      have S7 : Hid (BytesAt w7 (some ⟨w.heap.size, 0, none⟩) p) := (Src.of_blk HN7.out).bytes
      have hs7 := HB7.out.size
      rw [hw7]
      clear hb7 hw7
      refine hK.out _ _ S7.out (fun hHeld7 => ?_)
      clear hK K
      (try simp only [Act.put, List.getElem_toArray, List.getElem_cons_succ, List.getElem_cons_zero, List.setIfInBounds_toArray, List.set_cons_zero, List.set_cons_succ])
      refine wpAnyH_ready (rs := [8]) (by kernel_rfl) (by simp) ?_
      refine AllReadyH.cons (o := _) rfl (fun K hK => ?_) AllReadyH.nil
      refine step_append_src _ rfl (.tmp 84) (.tmp 87) 45 rfl B 9 i0 (.string ⟨#[]⟩) 1 16 Tryd.underlying45 HI.out.1 HI.out.2.1 HI.out.2.2.1 HI.out.2.2.2 rfl (by decide) (.slice Al ss.length capl) ss.length (sv ss) rfl HX7.out.all (some ⟨w4.heap.size, 0, none⟩) 1 1 [.string (tstr p)] rfl rfl HSR7.out (by intro u hu; simp at hu; subst hu; rfl) h63.out hroom.out (Nat.le_trans hB hs7) ?_
      intro v8 w8 hown8 hgrow8 hat8
      have hown9 : w8.ownsRow B 9 1 v8 (ss ++ [tstr p]).length (sv (ss ++ [tstr p])) := by
        have : sv (ss ++ [tstr p]) = sv ss ++ [.string (tstr p)] := by simp [sv]
        rw [this, List.length_append]
        exact hown8
      have hGA := HX7.out.grewAll hgrow8 hown9
      have hk8 : Kinds (fun x => (Value.slice Al ss.length capl).ownBlock = some x) w7 [9] := fun x hx => ⟨_, by simp, own_typ HX7.out.all hx⟩
      have hN8 := hGA.2.2.blk_ hk8 HN7.out (by decide)
      have HB8 : Hid (Below B w w8) := HB7.out.trans (only_below hGA.2.2 (fun k hk => (HX7.out.all.lt k hk).1) (Nat.le_trans hB hs7))
      have S8 : Hid (BytesAt w8 (some ⟨w.heap.size, 0, none⟩) p) := (Src.of_blk hN8).bytes
      have S9 : Hid (BytesAt (w8.setCell ⟨gx, 3, none⟩ v8) (some ⟨w.heap.size, 0, none⟩) p) := by
        have hne : w.heap.size ≠ gx := fun e => by
          have := hGA.2.1.typ.uniq (e ▸ hN8.typ)
          revert this
          decide
        exact (Src.of_blk (((Only.refl (· = gx) w8).setCell (p := ⟨gx, 3, none⟩) (.inl rfl) v8).blk hN8 hne)).bytes
      obtain ⟨A8, cap8, rfl, _, _, _⟩ := own_src hown8
      obtain ⟨u0, u1, u2, u3, u4, u5, u6, g0, g1, g2, g3, g4, g5, g6⟩ := facts7 hGA.2.1
      have HGA := Lib.hid hGA
      clear hown8 hgrow8 hat8 hown9 hGA hk8 hN8
      refine hK.out _ _ S8.out (fun hHeld8 => ?_)
      clear hK K
      (try simp only [Act.put, List.getElem_toArray, List.getElem_cons_succ, List.getElem_cons_zero, List.setIfInBounds_toArray, List.set_cons_zero, List.set_cons_succ])
      refine wpAnyH_take (i := 9) (oi := _) (v := ?_) rfl (by kernel_rfl) (by kernel_rfl) (by kernel_rfl) (fun _ _ _ h => h) (Or.inl ⟨by rfl, ?_⟩) (by assumption) ?_
      rotate_left
      · intro W hSw
        (try dsimp only at hSw)
        go_simp
        rfl
      (try simp only [Act.put, List.getElem_toArray, List.getElem_cons_succ, List.getElem_cons_zero, List.setIfInBounds_toArray, List.set_cons_zero, List.set_cons_succ])
      refine wpAnyH_take (i := 10) (oi := _) (v := ?_) rfl (by kernel_rfl) (by kernel_rfl) (by kernel_rfl) (fun _ _ _ h => h) (Or.inl ⟨by rfl, ?_⟩) (by assumption) ?_
      rotate_left
      · intro W hSw
        (try dsimp only at hSw)
        go_simp
        rfl
      (try simp only [Act.put, List.getElem_toArray, List.getElem_cons_succ, List.getElem_cons_zero, List.setIfInBounds_toArray, List.set_cons_zero, List.set_cons_succ])
      refine wpAnyH_ready (rs := [11]) (by kernel_rfl) (by simp) ?_
      refine AllReadyH.cons (o := _) rfl (fun K hK => ?_) AllReadyH.nil
      go_simp
      refine hK.out _ _ S9.out (fun _ => ?_)
      refine wpAnyH_done (by kernel_rfl) ?_ _
      clear hK K hHeld8
      go_wp2_with fail
      go_ret
      refine ⟨rfl, ⟨g, gl, v, va', _, vs', d', rd, l', ss ++ [tstr p], safe, rs, true, HGA.out.1, ?_, by omega⟩, HB8.out.setCell (p := ⟨gx, 3, none⟩) HM.out.low.1 _⟩
      have hbl : bl (ss ++ [tstr p]) = bl ss ++ [p] := by simp [bl, tstr_list]
      rw [hbl]
      exact HOK.out
    · refine AllReadyH.cons (o := _) rfl (fun K hK => ?_) AllReadyH.nil
      go_simp
      obtain ⟨w7, hw7⟩ : ∃ w7, (w4.alloc (.cells #[.string (tstr p)] 9)).drew = w7 := ⟨_, rfl⟩
      have hb7 : Below w4.heap.size w4 w7 := by rw [← hw7]; exact Below.drew ((Below.refl _ _).alloc (Nat.le_refl _) _)
      have HSR7 : Hid (Src w7 (some ⟨w4.heap.size, 0, none⟩) [.string (tstr p)]) := by rw [Hid, ← hw7]; exact Src.of_blk (w := (w4.alloc (.cells #[.string (tstr p)] 9)).drew) (Blk.new w4 9 [.string (tstr p)])
      have HX7 := Lib.hid (HX4.out.below hb7)
      have HN7 := Lib.hid (HN4.out.below hb7 HN4.out.lt)
      have HB7 : Hid (Below B w w7) := HB4.out.trans (hb7.mono (Nat.le_trans hB HB4.out.size))
      have S7 : Hid (BytesAt w7 (some ⟨w.heap.size, 0, none⟩) p) := (Src.of_blk HN7.out).bytes
      have hs7 := HB7.out.size
      rw [hw7]
      clear hb7 hw7
      obtain ⟨t0, t1, t2, t3, t4, t5, t6, _, _, _, _, _, _, _⟩ := facts7 HX7.out.blk
      refine hK.out _ _ S7.out (fun hHeld7 => ?_)
      clear hK K
      (try simp only [Act.put, List.getElem_toArray, List.getElem_cons_succ, List.getElem_cons_zero, List.setIfInBounds_toArray, List.set_cons_zero, List.set_cons_succ])
      refine wpAnyH_ready (rs := [4]) (by kernel_rfl) (by simp) ?_
      refine AllReadyH.cons (o := _) rfl (fun K hK => ?_) AllReadyH.nil
      go_simp
      refine hK.out _ _ S7.out (fun _ => ?_)
      clear hK K t0 t1 t2 t3 t4 t5 t6
      (try simp only [Act.put, List.getElem_toArray, List.getElem_cons_succ, List.getElem_cons_zero, List.setIfInBounds_toArray, List.set_cons_zero, List.set_cons_succ])
      refine wpAnyH_ready (rs := [8]) (by kernel_rfl) (by simp) ?_
      refine AllReadyH.cons (o := _) rfl (fun K hK => ?_) AllReadyH.nil
      refine step_append_src _ rfl (.tmp 84) (.tmp 87) 45 rfl B 9 i0 (.string ⟨#[]⟩) 1 16 Tryd.underlying45 HI.out.1 HI.out.2.1 HI.out.2.2.1 HI.out.2.2.2 rfl (by decide) (.slice Al ss.length capl) ss.length (sv ss) rfl HX7.out.all (some ⟨w4.heap.size, 0, none⟩) 1 1 [.string (tstr p)] rfl rfl HSR7.out (by intro u hu; simp at hu; subst hu; rfl) h63.out hroom.out (Nat.le_trans hB hs7) ?_
      intro v8 w8 hown8 hgrow8 hat8
      have hown9 : w8.ownsRow B 9 1 v8 (ss ++ [tstr p]).length (sv (ss ++ [tstr p])) := by
        have : sv (ss ++ [tstr p]) = sv ss ++ [.string (tstr p)] := by simp [sv]
        rw [this, List.length_append]
        exact hown8
      have hGA := HX7.out.grewAll hgrow8 hown9
      have hk8 : Kinds (fun x => (Value.slice Al ss.length capl).ownBlock = some x) w7 [9] := fun x hx => ⟨_, by simp, own_typ HX7.out.all hx⟩
      have hN8 := hGA.2.2.blk_ hk8 HN7.out (by decide)
      have HB8 : Hid (Below B w w8) := HB7.out.trans (only_below hGA.2.2 (fun k hk => (HX7.out.all.lt k hk).1) (Nat.le_trans hB hs7))
      have S8 : Hid (BytesAt w8 (some ⟨w.heap.size, 0, none⟩) p) := (Src.of_blk hN8).bytes
      have S9 : Hid (BytesAt (w8.setCell ⟨gx, 3, none⟩ v8) (some ⟨w.heap.size, 0, none⟩) p) := by
        have hne : w.heap.size ≠ gx := fun e => by
          have := hGA.2.1.typ.uniq (e ▸ hN8.typ)
          revert this
          decide
        exact (Src.of_blk (((Only.refl (· = gx) w8).setCell (p := ⟨gx, 3, none⟩) (.inl rfl) v8).blk hN8 hne)).bytes
      obtain ⟨A8, cap8, rfl, _, _, _⟩ := own_src hown8
      obtain ⟨u0, u1, u2, u3, u4, u5, u6, g0, g1, g2, g3, g4, g5, g6⟩ := facts7 hGA.2.1
      have HGA := Lib.hid hGA
      clear hown8 hgrow8 hat8 hown9 hGA hk8 hN8
      refine hK.out _ _ S8.out (fun hHeld8 => ?_)
      clear hK K
      (try simp only [Act.put, List.getElem_toArray, List.getElem_cons_succ, List.getElem_cons_zero, List.setIfInBounds_toArray, List.set_cons_zero, List.set_cons_succ])
      refine wpAnyH_take (i := 9) (oi := _) (v := ?_) rfl (by kernel_rfl) (by kernel_rfl) (by kernel_rfl) (fun _ _ _ h => h) (Or.inl ⟨by rfl, ?_⟩) (by assumption) ?_
      rotate_left
      · intro W hSw
        (try dsimp only at hSw)
        go_simp
        rfl
      (try simp only [Act.put, List.getElem_toArray, List.getElem_cons_succ, List.getElem_cons_zero, List.setIfInBounds_toArray, List.set_cons_zero, List.set_cons_succ])
      refine wpAnyH_take (i := 10) (oi := _) (v := ?_) rfl (by kernel_rfl) (by kernel_rfl) (by kernel_rfl) (fun _ _ _ h => h) (Or.inl ⟨by rfl, ?_⟩) (by assumption) ?_
      rotate_left
      · intro W hSw
        (try dsimp only at hSw)
        go_simp
        rfl
      (try simp only [Act.put, List.getElem_toArray, List.getElem_cons_succ, List.getElem_cons_zero, List.setIfInBounds_toArray, List.set_cons_zero, List.set_cons_succ])
      refine wpAnyH_ready (rs := [11]) (by kernel_rfl) (by simp) ?_
      refine AllReadyH.cons (o := _) rfl (fun K hK => ?_) AllReadyH.nil
      go_simp
      refine hK.out _ _ S9.out (fun _ => ?_)
      refine wpAnyH_done (by kernel_rfl) ?_ _
      clear hK K hHeld8
      go_wp2_with fail
      go_ret
      refine ⟨rfl, ⟨g, gl, v, va', _, vs', d', rd, l', ss ++ [tstr p], safe, rs, true, HGA.out.1, ?_, by omega⟩, HB8.out.setCell (p := ⟨gx, 3, none⟩) HM.out.low.1 _⟩
      have hbl : bl (ss ++ [tstr p]) = bl ss ++ [p] := by simp [bl, tstr_list]
      rw [hbl]
      exact HOK.out
  · rw [hap] at hS
    have HS := Lib.hid hS
    have HOK := Lib.hid hok'
    have hss : ss.length ≤ 4097 := by
      rcases hcount with h | h
      · have := bl_length ss
        omega
      · cases h
    have h63 : Hid (ss.length + 1 ≤ maxLen) := by rw [Hid]; simp only [maxLen]; omega
    have hroom := Lib.hid (string_room (n := ss.length) (m := 1) (by omega))
    clear hS hap hok' hpl
    go_enter Tryd.func22, Tryd.ntmps22
    go_wp2_with fail
    refine HS.out.mono ?_
    rintro e w2 ⟨rfl, va', vs', hst, hsep, _, ho⟩
    have HX2 := Lib.hid (HM1.out.put hst hsep ho (Nat.le_trans hB HB1.out.size))
    have HN2 := Lib.hid (ho.blk_ HM1.out.log.kinds HN1.out (by decide))
    have HB2 : Hid (Below B w w2) := HB1.out.trans (only_below ho HM.out.low.2 (Nat.le_trans hB HB1.out.size))
    unfold errA
    obtain ⟨w2a, hw2a⟩ : ∃ w2a, w2.alloc (.cells #[.int .i64 0, .string ⟨#[]⟩, .bool true] 27) = w2a := ⟨_, rfl⟩
    have ha : Below w2.heap.size w2 w2a := by rw [← hw2a]; exact (Below.refl _ _).alloc (Nat.le_refl _) _
    have BE : Blk w2a w2.heap.size 27 [.int .i64 0, .string ⟨#[]⟩, .bool true] := by rw [← hw2a]; exact Blk.new w2 27 _
    obtain ⟨z0, z1, z2, _, _, _⟩ := facts3 BE
    have HXa := Lib.hid (HX2.out.below ha)
    have HBa : Hid (Below B w w2a) := HB2.out.trans (ha.mono (Nat.le_trans hB HB2.out.size))
    have HN2a := Lib.hid (HN2.out.below ha HN2.out.lt)
    clear hst hsep ho ha
    clear x0 x1 x2 x3 x4 x5 x6 y0 y1 y2 y3 y4 y5 y6
    obtain ⟨x0, x1, x2, x3, x4, x5, x6, y0, y1, y2, y3, y4, y5, y6⟩ := facts7 HXa.out.blk
    have HTF := Lib.hid (ktold_fine gx _ _ _ _ _ _ w2a HXa.out.blk)
    unfold errA at HTF
    go_wp2_with fail
    refine HTF.out.mono ?_
    rintro e w4 ⟨rfl, hb4⟩
    have HX4 := Lib.hid (HXa.out.below hb4)
    have HB4 : Hid (Below B w w4) := HBa.out.trans (hb4.mono (Nat.le_trans hB HBa.out.size))
    have HN4 := Lib.hid (HN2a.out.below hb4 HN2a.out.lt)
    clear hb4 z0 z1 z2 x0 x1 x2 x3 x4 x5 x6 y0 y1 y2 y3 y4 y5 y6
    obtain ⟨x0, x1, x2, x3, x4, x5, x6, y0, y1, y2, y3, y4, y5, y6⟩ := facts7 HX4.out.blk
    go_wp2_with fail
    have S4d : Hid (BytesAt w4.drew (some ⟨w.heap.size, 0, none⟩) p) := (Src.of_blk HN4.out.drew).bytes
    refine wp_region_held_drew (S := (fun W : World => BytesAt W (some ⟨w.heap.size, 0, none⟩) p)) (by kernel_rfl) S4d.out (fun hHeld => ?_)
    refine wpAnyH_take (i := 0) (oi := _) (v := ?_) rfl (by kernel_rfl) (by kernel_rfl) (by kernel_rfl) (fun _ _ _ h => h) (Or.inl ⟨by rfl, ?_⟩) (by assumption) ?_
    rotate_left
    · intro W hSw
      (try dsimp only at hSw)
      go_simp
      rfl
    (try simp only [Act.put, List.getElem_toArray, List.getElem_cons_succ, List.getElem_cons_zero, List.setIfInBounds_toArray, List.set_cons_zero, List.set_cons_succ])
    refine wpAnyH_take (i := 1) (oi := _) (v := ?_) rfl (by kernel_rfl) (by kernel_rfl) (by kernel_rfl) (fun _ _ _ h => h) (Or.inl ⟨by rfl, ?_⟩) (by assumption) ?_
    rotate_left
    · intro W hSw
      (try dsimp only at hSw)
      go_simp
      rfl
    (try simp only [Act.put, List.getElem_toArray, List.getElem_cons_succ, List.getElem_cons_zero, List.setIfInBounds_toArray, List.set_cons_zero, List.set_cons_succ])
    refine wpAnyH_take (i := 2) (oi := _) (v := ?_) rfl (by kernel_rfl) (by kernel_rfl) (by kernel_rfl) (fun _ _ _ h => h) (Or.inl ⟨by rfl, ?_⟩) (by assumption) ?_
    rotate_left
    · intro W hSw
      (try dsimp only at hSw)
      go_simp
      rfl
    (try simp only [Act.put, List.getElem_toArray, List.getElem_cons_succ, List.getElem_cons_zero, List.setIfInBounds_toArray, List.set_cons_zero, List.set_cons_succ])
    refine wpAnyH_take (i := 3) (oi := _) (v := ?_) rfl (by kernel_rfl) (by kernel_rfl) (by kernel_rfl) (fun _ _ _ h => h) (Or.inl ⟨by rfl, ?_⟩) (by assumption) ?_
    rotate_left
    · intro W hSw
      (try dsimp only at hSw)
      go_simp
      rfl
    (try simp only [Act.put, List.getElem_toArray, List.getElem_cons_succ, List.getElem_cons_zero, List.setIfInBounds_toArray, List.set_cons_zero, List.set_cons_succ])
    refine wpAnyH_take (i := 5) (oi := _) (v := ?_) rfl (by kernel_rfl) (by kernel_rfl) (by kernel_rfl) (fun _ _ _ h => h) (Or.inl ⟨by rfl, ?_⟩) (by assumption) ?_
    rotate_left
    · intro W hSw
      (try dsimp only at hSw)
      go_simp
      rfl
    (try simp only [Act.put, List.getElem_toArray, List.getElem_cons_succ, List.getElem_cons_zero, List.setIfInBounds_toArray, List.set_cons_zero, List.set_cons_succ])
    refine wpAnyH_take (i := 6) (oi := _) (v := ?_) rfl (by kernel_rfl) (by kernel_rfl) (by kernel_rfl) (fun _ _ _ h => h) (Or.inl ⟨by rfl, ?_⟩) (by assumption) ?_
    rotate_left
    · intro W hSw
      have hcv := run_tostr W (some ⟨w.heap.size, 0, none⟩) p (m + 1) hSw
      rw [HPL.out] at hcv
      go_simp
      rfl
    (try simp only [Act.put, List.getElem_toArray, List.getElem_cons_succ, List.getElem_cons_zero, List.setIfInBounds_toArray, List.set_cons_zero, List.set_cons_succ])
    refine wpAnyH_ready (rs := [4, 7]) (by kernel_rfl) (by simp) ?_
    refine AllReadyH.cons (o := _) rfl (fun K hK => ?_) ?_
    · go_simp
      refine hK.out _ _ S4d.out (fun _ => ?_)
      clear hK K
      (try simp only [Act.put, List.getElem_toArray, List.getElem_cons_succ, List.getElem_cons_zero, List.setIfInBounds_toArray, List.set_cons_zero, List.set_cons_succ])
      refine wpAnyH_ready (rs := [7]) (by kernel_rfl) (by simp) ?_
      refine AllReadyH.cons (o := _) rfl (fun K hK => ?_) AllReadyH.nil
      go_simp
      obtain ⟨w7, hw7⟩ : ∃ w7, (w4.alloc (.cells #[.string (tstr p)] 9)).drew = w7 := ⟨_, rfl⟩
      have hb7 : Below w4.heap.size w4 w7 := by rw [← hw7]; exact Below.drew ((Below.refl _ _).alloc (Nat.le_refl _) _)
      have HSR7 : Hid (Src w7 (some ⟨w4.heap.size, 0, none⟩) [.string (tstr p)]) := by rw [Hid, ← hw7]; exact Src.of_blk (w := (w4.alloc (.cells #[.string (tstr p)] 9)).drew) (Blk.new w4 9 [.string (tstr p)])
      have HX7 := Lib.hid (HX4.out.below hb7)
      have HN7 := Lib.hid (HN4.out.below hb7 HN4.out.lt)
      have HB7 : Hid (Below B w w7) := HB4.out.trans (hb7.mono (Nat.le_trans hB HB4.out.size))
      have S7 : Hid (BytesAt w7 (some ⟨w.heap.size, 0, none⟩) p) := (Src.of_blk HN7.out).bytes
      have hs7 := HB7.out.size
      rw [hw7]
      clear hb7 hw7
      refine hK.out _ _ S7.out (fun hHeld7 => ?_)
      clear hK K
      (try simp only [Act.put, List.getElem_toArray, List.getElem_cons_succ, List.getElem_cons_zero, List.setIfInBounds_toArray, List.set_cons_zero, List.set_cons_succ])
      refine wpAnyH_ready (rs := [8]) (by kernel_rfl) (by simp) ?_
      refine AllReadyH.cons (o := _) rfl (fun K hK => ?_) AllReadyH.nil
      refine step_append_src _ rfl (.tmp 84) (.tmp 87) 45 rfl B 9 i0 (.string ⟨#[]⟩) 1 16 Tryd.underlying45 HI.out.1 HI.out.2.1 HI.out.2.2.1 HI.out.2.2.2 rfl (by decide) (.slice Al ss.length capl) ss.length (sv ss) rfl HX7.out.all (some ⟨w4.heap.size, 0, none⟩) 1 1 [.string (tstr p)] rfl rfl HSR7.out (by intro u hu; simp at hu; subst hu; rfl) h63.out hroom.out (Nat.le_trans hB hs7) ?_
      intro v8 w8 hown8 hgrow8 hat8
      have hown9 : w8.ownsRow B 9 1 v8 (ss ++ [tstr p]).length (sv (ss ++ [tstr p])) := by
        have : sv (ss ++ [tstr p]) = sv ss ++ [.string (tstr p)] := by simp [sv]
        rw [this, List.length_append]
        exact hown8
      have hGA := HX7.out.grewAll hgrow8 hown9
      have hk8 : Kinds (fun x => (Value.slice Al ss.length capl).ownBlock = some x) w7 [9] := fun x hx => ⟨_, by simp, own_typ HX7.out.all hx⟩
      have hN8 := hGA.2.2.blk_ hk8 HN7.out (by decide)
      have HB8 : Hid (Below B w w8) := HB7.out.trans (only_below hGA.2.2 (fun k hk => (HX7.out.all.lt k hk).1) (Nat.le_trans hB hs7))
      have S8 : Hid (BytesAt w8 (some ⟨w.heap.size, 0, none⟩) p) := (Src.of_blk hN8).bytes
      have S9 : Hid (BytesAt (w8.setCell ⟨gx, 3, none⟩ v8) (some ⟨w.heap.size, 0, none⟩) p) := by
        have hne : w.heap.size ≠ gx := fun e => by
          have := hGA.2.1.typ.uniq (e ▸ hN8.typ)
          revert this
          decide
        exact (Src.of_blk (((Only.refl (· = gx) w8).setCell (p := ⟨gx, 3, none⟩) (.inl rfl) v8).blk hN8 hne)).bytes
      obtain ⟨A8, cap8, rfl, _, _, _⟩ := own_src hown8
      obtain ⟨u0, u1, u2, u3, u4, u5, u6, g0, g1, g2, g3, g4, g5, g6⟩ := facts7 hGA.2.1
      have HGA := Lib.hid hGA
      clear hown8 hgrow8 hat8 hown9 hGA hk8 hN8
      refine hK.out _ _ S8.out (fun hHeld8 => ?_)
      clear hK K
      (try simp only [Act.put, List.getElem_toArray, List.getElem_cons_succ, List.getElem_cons_zero, List.setIfInBounds_toArray, List.set_cons_zero, List.set_cons_succ])
      refine wpAnyH_take (i := 9) (oi := _) (v := ?_) rfl (by kernel_rfl) (by kernel_rfl) (by kernel_rfl) (fun _ _ _ h => h) (Or.inl ⟨by rfl, ?_⟩) (by assumption) ?_
      rotate_left
      · intro W hSw
        (try dsimp only at hSw)
        go_simp
        rfl
      (try simp only [Act.put, List.getElem_toArray, List.getElem_cons_succ, List.getElem_cons_zero, List.setIfInBounds_toArray, List.set_cons_zero, List.set_cons_succ])
      refine wpAnyH_take (i := 10) (oi := _) (v := ?_) rfl (by kernel_rfl) (by kernel_rfl) (by kernel_rfl) (fun _ _ _ h => h) (Or.inl ⟨by rfl, ?_⟩) (by assumption) ?_
      rotate_left
      · intro W hSw
        (try dsimp only at hSw)
        go_simp
        rfl
      (try simp only [Act.put, List.getElem_toArray, List.getElem_cons_succ, List.getElem_cons_zero, List.setIfInBounds_toArray, List.set_cons_zero, List.set_cons_succ])
      refine wpAnyH_ready (rs := [11]) (by kernel_rfl) (by simp) ?_
      refine AllReadyH.cons (o := _) rfl (fun K hK => ?_) AllReadyH.nil
      go_simp
      refine hK.out _ _ S9.out (fun _ => ?_)
      refine wpAnyH_done (by kernel_rfl) ?_ _
      clear hK K hHeld8
      go_wp2_with fail
      go_ret
      refine ⟨rfl, ⟨g, gl, v, va', _, vs', d', rd, l', ss ++ [tstr p], safe, rs, false, HGA.out.1, ?_, by omega⟩, HB8.out.setCell (p := ⟨gx, 3, none⟩) HM.out.low.1 _⟩
      have hbl : bl (ss ++ [tstr p]) = bl ss ++ [p] := by simp [bl, tstr_list]
      rw [hbl]
      exact HOK.out
    · refine AllReadyH.cons (o := _) rfl (fun K hK => ?_) AllReadyH.nil
      go_simp
      obtain ⟨w7, hw7⟩ : ∃ w7, (w4.alloc (.cells #[.string (tstr p)] 9)).drew = w7 := ⟨_, rfl⟩
      have hb7 : Below w4.heap.size w4 w7 := by rw [← hw7]; exact Below.drew ((Below.refl _ _).alloc (Nat.le_refl _) _)
      have HSR7 : Hid (Src w7 (some ⟨w4.heap.size, 0, none⟩) [.string (tstr p)]) := by rw [Hid, ← hw7]; exact Src.of_blk (w := (w4.alloc (.cells #[.string (tstr p)] 9)).drew) (Blk.new w4 9 [.string (tstr p)])
      have HX7 := Lib.hid (HX4.out.below hb7)
      have HN7 := Lib.hid (HN4.out.below hb7 HN4.out.lt)
      have HB7 : Hid (Below B w w7) := HB4.out.trans (hb7.mono (Nat.le_trans hB HB4.out.size))
      have S7 : Hid (BytesAt w7 (some ⟨w.heap.size, 0, none⟩) p) := (Src.of_blk HN7.out).bytes
      have hs7 := HB7.out.size
      rw [hw7]
      clear hb7 hw7
      obtain ⟨t0, t1, t2, t3, t4, t5, t6, _, _, _, _, _, _, _⟩ := facts7 HX7.out.blk
      refine hK.out _ _ S7.out (fun hHeld7 => ?_)
      clear hK K
      (try simp only [Act.put, List.getElem_toArray, List.getElem_cons_succ, List.getElem_cons_zero, List.setIfInBounds_toArray, List.set_cons_zero, List.set_cons_succ])
      refine wpAnyH_ready (rs := [4]) (by kernel_rfl) (by simp) ?_
      refine AllReadyH.cons (o := _) rfl (fun K hK => ?_) AllReadyH.nil
      go_simp
      refine hK.out _ _ S7.out (fun _ => ?_)
      clear hK K t0 t1 t2 t3 t4 t5 t6
      (try simp only [Act.put, List.getElem_toArray, List.getElem_cons_succ, List.getElem_cons_zero, List.setIfInBounds_toArray, List.set_cons_zero, List.set_cons_succ])
      refine wpAnyH_ready (rs := [8]) (by kernel_rfl) (by simp) ?_
      refine AllReadyH.cons (o := _) rfl (fun K hK => ?_) AllReadyH.nil
      refine step_append_src _ rfl (.tmp 84) (.tmp 87) 45 rfl B 9 i0 (.string ⟨#[]⟩) 1 16 Tryd.underlying45 HI.out.1 HI.out.2.1 HI.out.2.2.1 HI.out.2.2.2 rfl (by decide) (.slice Al ss.length capl) ss.length (sv ss) rfl HX7.out.all (some ⟨w4.heap.size, 0, none⟩) 1 1 [.string (tstr p)] rfl rfl HSR7.out (by intro u hu; simp at hu; subst hu; rfl) h63.out hroom.out (Nat.le_trans hB hs7) ?_
      intro v8 w8 hown8 hgrow8 hat8
      have hown9 : w8.ownsRow B 9 1 v8 (ss ++ [tstr p]).length (sv (ss ++ [tstr p])) := by
        have : sv (ss ++ [tstr p]) = sv ss ++ [.string (tstr p)] := by simp [sv]
        rw [this, List.length_append]
        exact hown8
      have hGA := HX7.out.grewAll hgrow8 hown9
      have hk8 : Kinds (fun x => (Value.slice Al ss.length capl).ownBlock = some x) w7 [9] := fun x hx => ⟨_, by simp, own_typ HX7.out.all hx⟩
      have hN8 := hGA.2.2.blk_ hk8 HN7.out (by decide)
      have HB8 : Hid (Below B w w8) := HB7.out.trans (only_below hGA.2.2 (fun k hk => (HX7.out.all.lt k hk).1) (Nat.le_trans hB hs7))
      have S8 : Hid (BytesAt w8 (some ⟨w.heap.size, 0, none⟩) p) := (Src.of_blk hN8).bytes
      have S9 : Hid (BytesAt (w8.setCell ⟨gx, 3, none⟩ v8) (some ⟨w.heap.size, 0, none⟩) p) := by
        have hne : w.heap.size ≠ gx := fun e => by
          have := hGA.2.1.typ.uniq (e ▸ hN8.typ)
          revert this
          decide
        exact (Src.of_blk (((Only.refl (· = gx) w8).setCell (p := ⟨gx, 3, none⟩) (.inl rfl) v8).blk hN8 hne)).bytes
      obtain ⟨A8, cap8, rfl, _, _, _⟩ := own_src hown8
      obtain ⟨u0, u1, u2, u3, u4, u5, u6, g0, g1, g2, g3, g4, g5, g6⟩ := facts7 hGA.2.1
      have HGA := Lib.hid hGA
      clear hown8 hgrow8 hat8 hown9 hGA hk8 hN8
      refine hK.out _ _ S8.out (fun hHeld8 => ?_)
      clear hK K
      (try simp only [Act.put, List.getElem_toArray, List.getElem_cons_succ, List.getElem_cons_zero, List.setIfInBounds_toArray, List.set_cons_zero, List.set_cons_succ])
      refine wpAnyH_take (i := 9) (oi := _) (v := ?_) rfl (by kernel_rfl) (by kernel_rfl) (by kernel_rfl) (fun _ _ _ h => h) (Or.inl ⟨by rfl, ?_⟩) (by assumption) ?_
      rotate_left
      · intro W hSw
        (try dsimp only at hSw)
        go_simp
        rfl
      (try simp only [Act.put, List.getElem_toArray, List.getElem_cons_succ, List.getElem_cons_zero, List.setIfInBounds_toArray, List.set_cons_zero, List.set_cons_succ])
      refine wpAnyH_take (i := 10) (oi := _) (v := ?_) rfl (by kernel_rfl) (by kernel_rfl) (by kernel_rfl) (fun _ _ _ h => h) (Or.inl ⟨by rfl, ?_⟩) (by assumption) ?_
      rotate_left
      · intro W hSw
        (try dsimp only at hSw)
        go_simp
        rfl
      (try simp only [Act.put, List.getElem_toArray, List.getElem_cons_succ, List.getElem_cons_zero, List.setIfInBounds_toArray, List.set_cons_zero, List.set_cons_succ])
      refine wpAnyH_ready (rs := [11]) (by kernel_rfl) (by simp) ?_
      refine AllReadyH.cons (o := _) rfl (fun K hK => ?_) AllReadyH.nil
      go_simp
      refine hK.out _ _ S9.out (fun _ => ?_)
      refine wpAnyH_done (by kernel_rfl) ?_ _
      clear hK K hHeld8
      go_wp2_with fail
      go_ret
      refine ⟨rfl, ⟨g, gl, v, va', _, vs', d', rd, l', ss ++ [tstr p], safe, rs, false, HGA.out.1, ?_, by omega⟩, HB8.out.setCell (p := ⟨gx, 3, none⟩) HM.out.low.1 _⟩
      have hbl : bl (ss ++ [tstr p]) = bl ss ++ [p] := by simp [bl, tstr_list]
      rw [hbl]
      exact HOK.out

set_option maxHeartbeats 2000000 in
set_option maxRecDepth 100000 in
theorem act_append1 (B gx data k i : Nat) (s : ByteArray) (w : World) (hi : i < s.size) (h : KLog B w gx data k) (hG : GE w) (hGB : 0 < B) (hB : B ≤ w.heap.size) (hk : k ≤ 5000) (hc : s[i].toNat % 8 = 1) :
    Calls Tryd.prog 22 #[.pointer (some ⟨gx, 0, none⟩), .string s, .int .i64 (i : Nat)] w (ActPost B gx data k w) := by
  obtain ⟨g, gl, v, va, vall, vs, d, rd, l, ss, safe, rs, bad, hm, hok, hep⟩ := h
  obtain ⟨c, hcc⟩ : ∃ c, s[i] = c := ⟨_, rfl⟩
  rw [hcc] at hc
  have hq : ∃ q : Nat, q ≤ 31 ∧ ((c.toNat : Nat) : Int).tdiv 8 = (q : Int) := ⟨c.toNat / 8, by have := c.toNat_lt; omega, by rw [Int.tdiv_eq_ediv_of_nonneg (by omega)]; omega⟩
  obtain ⟨q, hq1, hq2⟩ := hq
  have hr : ((c.toNat : Nat) : Int).tmod 8 = 1 := by rw [Int.tmod_eq_emod_of_nonneg (by omega)]; omega
  have hi2 : (i : Int) < (s.size : Int) := by omega
  have hgf : ¬ lFa gl g v va 0 := fun e => by have := hm.low.2 _ e; omega
  obtain ⟨x0, x1, x2, x3, x4, x5, x6, y0, y1, y2, y3, y4, y5, y6⟩ := facts7 hm.blk
  obtain ⟨m, hmq⟩ : ∃ m, q * (1 + q) = m := ⟨_, rfl⟩
  have hm992 : m ≤ 992 := by
    rw [← hmq]
    exact Nat.mul_le_mul hq1 (by omega : 1 + q ≤ 32)
  have hmi : ((q : Nat) : Int) * (1 + ((q : Nat) : Int)) = (m : Int) := by rw [← hmq]; push_cast; rfl
  have hmk := make_bytes (1 + (m : Int)) (m + 1) (by omega) (by omega)
  have hpos : (0 : Int) ≤ 1 + (m : Int) := by omega
  obtain ⟨Al, capl, rfl, _, _, _⟩ := own_src hm.all
  obtain ⟨u8v, hu8⟩ : ∃ u : UInt8, ((u.toNat : Nat) : Int) = IntKind.u8.wrap ((ss.length : Nat) : Int) := ⟨UInt8.ofNat ss.length, by simp [IntKind.wrap, IntKind.signed, IntKind.bits]⟩
  obtain ⟨p, hp⟩ : ∃ p, ((Pl.zeros (m + 1)).set 0 c).set m u8v = p := ⟨_, rfl⟩
  have hpl : p.length = m + 1 := by rw [← hp]; simp [Pl.zeros]
  obtain ⟨wa, hwa⟩ : ∃ wa, w.alloc (.cells ((zrow (m + 1)).set 0 (.int .u8 ((c.toNat : Nat) : Int))).toArray 5) = wa := ⟨_, rfl⟩
  have hba : Below w.heap.size w wa := by rw [← hwa]; exact (Below.refl _ _).alloc (Nat.le_refl _) _
  have hNa : Blk wa w.heap.size 5 ((zrow (m + 1)).set 0 (.int .u8 ((c.toNat : Nat) : Int))) := by rw [← hwa]; exact Blk.new w 5 _
  have hxm : ∃ x, wa.cell? ⟨w.heap.size, m, none⟩ = some x := by
    rw [hNa.cell m]
    exact ⟨_, List.getElem?_eq_getElem (by rw [List.length_set]; simp [zrow])⟩
  obtain ⟨xm, hxm⟩ := hxm
  have qm := hNa.frozen m
  have hN1 : Blk (wa.setCell ⟨w.heap.size, m, none⟩ (.int .u8 ((u8v.toNat : Nat) : Int))) w.heap.size 5 (bv p) := by
    have h1 := hNa.set_ m (.int .u8 ((u8v.toNat : Nat) : Int))
    have h2 : ((zrow (m + 1)).set 0 (.int .u8 ((c.toNat : Nat) : Int))).set m (.int .u8 ((u8v.toNat : Nat) : Int)) = bv p := by
      rw [← hp]
      unfold bv Pl.zeros zrow
      rw [List.map_set, List.map_set, List.map_replicate]
      rfl
    rw [← h2]
    exact h1
  have hma := hm.below hba
  obtain ⟨w1, hw1⟩ : ∃ w1, wa.setCell ⟨w.heap.size, m, none⟩ (.int .u8 ((u8v.toNat : Nat) : Int)) = w1 := ⟨_, rfl⟩
  rw [hw1] at hN1
  have hb1 : Below w.heap.size w w1 := by rw [← hw1]; exact hba.setCell (p := ⟨w.heap.size, m, none⟩) (Nat.le_refl _) _
  have hm1 := hm.below hb1
  have hfit : l.first + 2 + l.data ≤ d.secs.length := by
    obtain ⟨_, _, hh, _⟩ := hok.held
    have := hh.room
    have := hok.first
    have := hok.dat
    omega
  have hsm := hm.log.cells.small
  have hcnt := Pl.flat_count l.all (fun p hp => (hok.small p hp).1)
  have hnx := hok.next
  have hlt : ∀ q, lFa gl g v va q → q < w.heap.size := hm.log.lt
  have hS := pAppend_any gl g v va vs d rd l p (some ⟨w.heap.size, 0, none⟩) (m + 1) w1 hm1.log (hG.below hb1) hgf (Src.of_blk hN1).bytes (fun q hq => by
    injection hq with hq
    rw [← hq]
    exact ⟨hN1.lt, fun e => Nat.lt_irrefl _ (hlt _ e)⟩) (by omega) (by omega) hfit (by omega)
  rw [hpl] at hS
  obtain ⟨i0, hi0, hz0, hz1, hz2⟩ := info_parts Tryd.infoString
  have HI := Lib.hid (And.intro hi0 (And.intro hz0 (And.intro hz1 hz2)))
  have HM := Lib.hid hm
  have HM1 := Lib.hid hm1
  have HN1 := Lib.hid hN1
  have HB1 : Hid (Below B w w1) := hb1.mono hB
  have HPL := Lib.hid hpl
  have hu8' := hu8.symm
  obtain ⟨t0, t1, t2, t3, t4, t5, t6, _, _, _, _, _, _, _⟩ := facts7 hma.blk
  clear x0 x1 x2 x3 x4 x5 x6 y0 y1 y2 y3 y4 y5 y6
  obtain ⟨x0, x1, x2, x3, x4, x5, x6, y0, y1, y2, y3, y4, y5, y6⟩ := facts7 hm1.blk
  have hap := hok.appends p ⟨by omega, by omega⟩
  have hcount := hok.count
  have hda := hok.dat
  have HK := Lib.hid hok
  clear hm hma hm1 hba hb1 hNa hN1 hok hG hfit hcnt hnx hlt hp hi0 hz0 hz1 hz2 hu8
  rcases hap with hap | ⟨rfl, hap⟩ | ⟨rfl, l', d', hap, hok', hep'⟩ | ⟨rfl, l', d', hap, hok', hep'⟩
  · rw [hap] at hS
    have HS := Lib.hid hS
    clear hS hap hpl
    go_enter Tryd.func22, Tryd.ntmps22
    go_wp2_with fail
    refine HS.out.mono ?_
    rintro e w2 ⟨rfl, va', vs', hst, hsep, _, ho⟩
    have HX2 := Lib.hid (HM1.out.put hst hsep ho (Nat.le_trans hB HB1.out.size))
    have HN2 := Lib.hid (ho.blk_ HM1.out.log.kinds HN1.out (by decide))
    have HB2 : Hid (Below B w w2) := HB1.out.trans (only_below ho HM.out.low.2 (Nat.le_trans hB HB1.out.size))
    unfold errA
    obtain ⟨w2a, hw2a⟩ : ∃ w2a, w2.alloc (.cells #[.int .i64 5, .string ⟨#[]⟩, .bool true] 27) = w2a := ⟨_, rfl⟩
    have ha : Below w2.heap.size w2 w2a := by rw [← hw2a]; exact (Below.refl _ _).alloc (Nat.le_refl _) _
    have BE : Blk w2a w2.heap.size 27 [.int .i64 5, .string ⟨#[]⟩, .bool true] := by rw [← hw2a]; exact Blk.new w2 27 _
    obtain ⟨z0, z1, z2, _, _, _⟩ := facts3 BE
    have HXa := Lib.hid (HX2.out.below ha)
    have HBa : Hid (Below B w w2a) := HB2.out.trans (ha.mono (Nat.le_trans hB HB2.out.size))
    have HN2a := Lib.hid (HN2.out.below ha HN2.out.lt)
    clear hst hsep ho ha
    clear x0 x1 x2 x3 x4 x5 x6 y0 y1 y2 y3 y4 y5 y6
    obtain ⟨x0, x1, x2, x3, x4, x5, x6, y0, y1, y2, y3, y4, y5, y6⟩ := facts7 HXa.out.blk
    go_wp2_with fail
    go_ret
    exact ⟨rfl, ⟨g, gl, v, va', _, vs', d, rd, l, ss, safe, rs, bad, HXa.out, HK.out, by omega⟩, HBa.out⟩
  · rw [hap] at hS
    have HS := Lib.hid hS
    clear hS hap hpl
    go_enter Tryd.func22, Tryd.ntmps22
    go_wp2_with fail
    refine HS.out.mono ?_
    rintro e w2 ⟨rfl, va', vs', hst, hsep, _, ho⟩
    have HX2 := Lib.hid (HM1.out.put hst hsep ho (Nat.le_trans hB HB1.out.size))
    have HN2 := Lib.hid (ho.blk_ HM1.out.log.kinds HN1.out (by decide))
    have HB2 : Hid (Below B w w2) := HB1.out.trans (only_below ho HM.out.low.2 (Nat.le_trans hB HB1.out.size))
    unfold errA
    obtain ⟨w2a, hw2a⟩ : ∃ w2a, w2.alloc (.cells #[.int .i64 3, .string ⟨#[]⟩, .bool true] 27) = w2a := ⟨_, rfl⟩
    have ha : Below w2.heap.size w2 w2a := by rw [← hw2a]; exact (Below.refl _ _).alloc (Nat.le_refl _) _
    have BE : Blk w2a w2.heap.size 27 [.int .i64 3, .string ⟨#[]⟩, .bool true] := by rw [← hw2a]; exact Blk.new w2 27 _
    obtain ⟨z0, z1, z2, _, _, _⟩ := facts3 BE
    have HXa := Lib.hid (HX2.out.below ha)
    have HBa : Hid (Below B w w2a) := HB2.out.trans (ha.mono (Nat.le_trans hB HB2.out.size))
    have HN2a := Lib.hid (HN2.out.below ha HN2.out.lt)
    clear hst hsep ho ha
    clear x0 x1 x2 x3 x4 x5 x6 y0 y1 y2 y3 y4 y5 y6
    obtain ⟨x0, x1, x2, x3, x4, x5, x6, y0, y1, y2, y3, y4, y5, y6⟩ := facts7 HXa.out.blk
    have HTD := Lib.hid (ktold_died gx g v _ _ _ _ _ _ d rd w2a HXa.out.blk HXa.out.log.disk (HK.out.life.2 rfl))
    unfold errA at HTD
    go_wp2_with fail
    refine HTD.out.mono ?_
    rintro e w4 ⟨rfl, w3, hb3, hw4⟩
    have HX4 : Hid (KMem B w4 gx g gl (data + 2) v va' (.slice Al ss.length capl) vs' d rd l ss safe rs true) := by rw [hw4]; exact (HXa.out.below hb3).setBad true
    have HB4 : Hid (Below B w w4) := by rw [hw4]; exact (HBa.out.trans (hb3.mono (Nat.le_trans hB HBa.out.size))).setCell (p := ⟨gx, 6, none⟩) HM.out.low.1 _
    clear hb3 hw4 z0 z1 z2 x0 x1 x2 x3 x4 x5 x6 y0 y1 y2 y3 y4 y5 y6
    obtain ⟨x0, x1, x2, x3, x4, x5, x6, y0, y1, y2, y3, y4, y5, y6⟩ := facts7 HX4.out.blk
    go_wp2_with fail
    go_ret
    exact ⟨rfl, ⟨g, gl, v, va', _, vs', d, rd, l, ss, safe, rs, true, HX4.out, HK.out, by omega⟩, HB4.out⟩
  · rw [hap] at hS
    have HS := Lib.hid hS
    have HOK := Lib.hid hok'
    have hss : ss.length ≤ 4097 := by
      rcases hcount with h | h
      · have := bl_length ss
        omega
      · cases h
    have h63 : Hid (ss.length + 1 ≤ maxLen) := by rw [Hid]; simp only [maxLen]; omega
    have hroom := Lib.hid (string_room (n := ss.length) (m := 1) (by omega))
    clear hS hap hok' hpl
    go_enter Tryd.func22, Tryd.ntmps22
    go_wp2_with fail
    refine HS.out.mono ?_
    rintro e w2 ⟨rfl, va', vs', hst, hsep, _, ho⟩
    have HX2 := Lib.hid (HM1.out.put hst hsep ho (Nat.le_trans hB HB1.out.size))
    have HN2 := Lib.hid (ho.blk_ HM1.out.log.kinds HN1.out (by decide))
    have HB2 : Hid (Below B w w2) := HB1.out.trans (only_below ho HM.out.low.2 (Nat.le_trans hB HB1.out.size))
    unfold errA
    obtain ⟨w2a, hw2a⟩ : ∃ w2a, w2.alloc (.cells #[.int .i64 3, .string ⟨#[]⟩, .bool true] 27) = w2a := ⟨_, rfl⟩
    have ha : Below w2.heap.size w2 w2a := by rw [← hw2a]; exact (Below.refl _ _).alloc (Nat.le_refl _) _
    have BE : Blk w2a w2.heap.size 27 [.int .i64 3, .string ⟨#[]⟩, .bool true] := by rw [← hw2a]; exact Blk.new w2 27 _
    obtain ⟨z0, z1, z2, _, _, _⟩ := facts3 BE
    have HXa := Lib.hid (HX2.out.below ha)
    have HBa : Hid (Below B w w2a) := HB2.out.trans (ha.mono (Nat.le_trans hB HB2.out.size))
    have HN2a := Lib.hid (HN2.out.below ha HN2.out.lt)
    clear hst hsep ho ha
    clear x0 x1 x2 x3 x4 x5 x6 y0 y1 y2 y3 y4 y5 y6
    obtain ⟨x0, x1, x2, x3, x4, x5, x6, y0, y1, y2, y3, y4, y5, y6⟩ := facts7 HXa.out.blk
    have HTD := Lib.hid (ktold_died gx g v _ _ _ _ _ _ d' rd w2a HXa.out.blk HXa.out.log.disk (HOK.out.life.2 rfl))
    unfold errA at HTD
    go_wp2_with fail
    refine HTD.out.mono ?_
    rintro e w4 ⟨rfl, w3, hb3, hw4⟩
    have HX4 : Hid (KMem B w4 gx g gl (data + 2) v va' (.slice Al ss.length capl) vs' d' rd l' ss safe rs true) := by rw [hw4]; exact (HXa.out.below hb3).setBad true
    have HB4 : Hid (Below B w w4) := by rw [hw4]; exact (HBa.out.trans (hb3.mono (Nat.le_trans hB HBa.out.size))).setCell (p := ⟨gx, 6, none⟩) HM.out.low.1 _
    have HN4 : Hid (Blk w4 w.heap.size 5 (bv p)) := by
      rw [hw4]
      have h1 := HN2a.out.below hb3 HN2a.out.lt
      have h2 := (HXa.out.below hb3).blk
      refine ((Only.refl (· = gx) w3).setCell (p := ⟨gx, 6, none⟩) (.inl rfl) (.bool true)).blk h1 (fun e => ?_)
      have := h2.typ.uniq (e ▸ h1.typ)
      revert this
      decide
    clear hb3 hw4 z0 z1 z2 x0 x1 x2 x3 x4 x5 x6 y0 y1 y2 y3 y4 y5 y6
    obtain ⟨x0, x1, x2, x3, x4, x5, x6, y0, y1, y2, y3, y4, y5, y6⟩ := facts7 HX4.out.blk
    go_wp2_with fail
    have S4d : Hid (BytesAt w4.drew (some ⟨w.heap.size, 0, none⟩) p) := (Src.of_blk HN4.out.drew).bytes
    refine wp_region_held_drew (S := (fun W : World => BytesAt W (some ⟨w.heap.size, 0, none⟩) p)) (by kernel_rfl) S4d.out (fun hHeld => ?_)
    refine wpAnyH_take (i := 0) (oi := _) (v := ?_) rfl (by kernel_rfl) (by kernel_rfl) (by kernel_rfl) (fun _ _ _ h => h) (Or.inl ⟨by rfl, ?_⟩) (by assumption) ?_
    rotate_left
    · intro W hSw
      (try dsimp only at hSw)
      go_simp
      rfl
    (try simp only [Act.put, List.getElem_toArray, List.getElem_cons_succ, List.getElem_cons_zero, List.setIfInBounds_toArray, List.set_cons_zero, List.set_cons_succ])
    refine wpAnyH_take (i := 1) (oi := _) (v := ?_) rfl (by kernel_rfl) (by kernel_rfl) (by kernel_rfl) (fun _ _ _ h => h) (Or.inl ⟨by rfl, ?_⟩) (by assumption) ?_
    rotate_left
    · intro W hSw
      (try dsimp only at hSw)
      go_simp
      rfl
    (try simp only [Act.put, List.getElem_toArray, List.getElem_cons_succ, List.getElem_cons_zero, List.setIfInBounds_toArray, List.set_cons_zero, List.set_cons_succ])
    refine wpAnyH_take (i := 2) (oi := _) (v := ?_) rfl (by kernel_rfl) (by kernel_rfl) (by kernel_rfl) (fun _ _ _ h => h) (Or.inl ⟨by rfl, ?_⟩) (by assumption) ?_
    rotate_left
    · intro W hSw
      (try dsimp only at hSw)
      go_simp
      rfl
    (try simp only [Act.put, List.getElem_toArray, List.getElem_cons_succ, List.getElem_cons_zero, List.setIfInBounds_toArray, List.set_cons_zero, List.set_cons_succ])
    refine wpAnyH_take (i := 3) (oi := _) (v := ?_) rfl (by kernel_rfl) (by kernel_rfl) (by kernel_rfl) (fun _ _ _ h => h) (Or.inl ⟨by rfl, ?_⟩) (by assumption) ?_
    rotate_left
    · intro W hSw
      (try dsimp only at hSw)
      go_simp
      rfl
    (try simp only [Act.put, List.getElem_toArray, List.getElem_cons_succ, List.getElem_cons_zero, List.setIfInBounds_toArray, List.set_cons_zero, List.set_cons_succ])
    refine wpAnyH_take (i := 5) (oi := _) (v := ?_) rfl (by kernel_rfl) (by kernel_rfl) (by kernel_rfl) (fun _ _ _ h => h) (Or.inl ⟨by rfl, ?_⟩) (by assumption) ?_
    rotate_left
    · intro W hSw
      (try dsimp only at hSw)
      go_simp
      rfl
    (try simp only [Act.put, List.getElem_toArray, List.getElem_cons_succ, List.getElem_cons_zero, List.setIfInBounds_toArray, List.set_cons_zero, List.set_cons_succ])
    refine wpAnyH_take (i := 6) (oi := _) (v := ?_) rfl (by kernel_rfl) (by kernel_rfl) (by kernel_rfl) (fun _ _ _ h => h) (Or.inl ⟨by rfl, ?_⟩) (by assumption) ?_
    rotate_left
    · intro W hSw
      have hcv := run_tostr W (some ⟨w.heap.size, 0, none⟩) p (m + 1) hSw
      rw [HPL.out] at hcv
      go_simp
      rfl
    (try simp only [Act.put, List.getElem_toArray, List.getElem_cons_succ, List.getElem_cons_zero, List.setIfInBounds_toArray, List.set_cons_zero, List.set_cons_succ])
    refine wpAnyH_ready (rs := [4, 7]) (by kernel_rfl) (by simp) ?_
    refine AllReadyH.cons (o := _) rfl (fun K hK => ?_) ?_
    · go_simp
      refine hK.out _ _ S4d.out (fun _ => ?_)
      clear hK K
      (try simp only [Act.put, List.getElem_toArray, List.getElem_cons_succ, List.getElem_cons_zero, List.setIfInBounds_toArray, List.set_cons_zero, List.set_cons_succ])
      refine wpAnyH_ready (rs := [7]) (by kernel_rfl) (by simp) ?_
      refine AllReadyH.cons (o := _) rfl (fun K hK => ?_) AllReadyH.nil
      go_simp
      obtain ⟨w7, hw7⟩ : ∃ w7, (w4.alloc (.cells #[.string (tstr p)] 9)).drew = w7 := ⟨_, rfl⟩
      have hb7 : Below w4.heap.size w4 w7 := by rw [← hw7]; exact Below.drew ((Below.refl _ _).alloc (Nat.le_refl _) _)
      have HSR7 : Hid (Src w7 (some ⟨w4.heap.size, 0, none⟩) [.string (tstr p)]) := by rw [Hid, ← hw7]; exact Src.of_blk (w := (w4.alloc (.cells #[.string (tstr p)] 9)).drew) (Blk.new w4 9 [.string (tstr p)])
      have HX7 := Lib.hid (HX4.out.below hb7)
      have HN7 := Lib.hid (HN4.out.below hb7 HN4.out.lt)
      have HB7 : Hid (Below B w w7) := HB4.out.trans (hb7.mono (Nat.le_trans hB HB4.out.size))
      have S7 : Hid (BytesAt w7 (some ⟨w.heap.size, 0, none⟩) p) := (Src.of_blk HN7.out).bytes
      have hs7 := HB7.out.size
      rw [hw7]
      clear hb7 hw7
      refine hK.out _ _ S7.out (fun hHeld7 => ?_)
      clear hK K
      (try simp only [Act.put, List.getElem_toArray, List.getElem_cons_succ, List.getElem_cons_zero, List.setIfInBounds_toArray, List.set_cons_zero, List.set_cons_succ])
      refine wpAnyH_ready (rs := [8]) (by kernel_rfl) (by simp) ?_
      refine AllReadyH.cons (o := _) rfl (fun K hK => ?_) AllReadyH.nil
      refine step_append_src _ rfl (.tmp 84) (.tmp 87) 45 rfl B 9 i0 (.string ⟨#[]⟩) 1 16 Tryd.underlying45 HI.out.1 HI.out.2.1 HI.out.2.2.1 HI.out.2.2.2 rfl (by decide) (.slice Al ss.length capl) ss.length (sv ss) rfl HX7.out.all (some ⟨w4.heap.size, 0, none⟩) 1 1 [.string (tstr p)] rfl rfl HSR7.out (by intro u hu; simp at hu; subst hu; rfl) h63.out hroom.out (Nat.le_trans hB hs7) ?_
      intro v8 w8 hown8 hgrow8 hat8
      have hown9 : w8.ownsRow B 9 1 v8 (ss ++ [tstr p]).length (sv (ss ++ [tstr p])) := by
        have : sv (ss ++ [tstr p]) = sv ss ++ [.string (tstr p)] := by simp [sv]
        rw [this, List.length_append]
        exact hown8
      have hGA := HX7.out.grewAll hgrow8 hown9
      have hk8 : Kinds (fun x => (Value.slice Al ss.length capl).ownBlock = some x) w7 [9] := fun x hx => ⟨_, by simp, own_typ HX7.out.all hx⟩
      have hN8 := hGA.2.2.blk_ hk8 HN7.out (by decide)
      have HB8 : Hid (Below B w w8) := HB7.out.trans (only_below hGA.2.2 (fun k hk => (HX7.out.all.lt k hk).1) (Nat.le_trans hB hs7))
      have S8 : Hid (BytesAt w8 (some ⟨w.heap.size, 0, none⟩) p) := (Src.of_blk hN8).bytes
      have S9 : Hid (BytesAt (w8.setCell ⟨gx, 3, none⟩ v8) (some ⟨w.heap.size, 0, none⟩) p) := by
        have hne : w.heap.size ≠ gx := fun e => by
          have := hGA.2.1.typ.uniq (e ▸ hN8.typ)
          revert this
          decide
        exact (Src.of_blk (((Only.refl (· = gx) w8).setCell (p := ⟨gx, 3, none⟩) (.inl rfl) v8).blk hN8 hne)).bytes
      obtain ⟨A8, cap8, rfl, _, _, _⟩ := own_src hown8
      obtain ⟨u0, u1, u2, u3, u4, u5, u6, g0, g1, g2, g3, g4, g5, g6⟩ := facts7 hGA.2.1
      have HGA := Lib.hid hGA
      clear hown8 hgrow8 hat8 hown9 hGA hk8 hN8
      refine hK.out _ _ S8.out (fun hHeld8 => ?_)
      clear hK K
      (try simp only [Act.put, List.getElem_toArray, List.getElem_cons_succ, List.getElem_cons_zero, List.setIfInBounds_toArray, List.set_cons_zero, List.set_cons_succ])
      refine wpAnyH_take (i := 9) (oi := _) (v := ?_) rfl (by kernel_rfl) (by kernel_rfl) (by kernel_rfl) (fun _ _ _ h => h) (Or.inl ⟨by rfl, ?_⟩) (by assumption) ?_
      rotate_left
      · intro W hSw
        (try dsimp only at hSw)
        go_simp
        rfl
      (try simp only [Act.put, List.getElem_toArray, List.getElem_cons_succ, List.getElem_cons_zero, List.setIfInBounds_toArray, List.set_cons_zero, List.set_cons_succ])
      refine wpAnyH_take (i := 10) (oi := _) (v := ?_) rfl (by kernel_rfl) (by kernel_rfl) (by kernel_rfl) (fun _ _ _ h => h) (Or.inl ⟨by rfl, ?_⟩) (by assumption) ?_
      rotate_left
      · intro W hSw
        (try dsimp only at hSw)
        go_simp
        rfl
      (try simp only [Act.put, List.getElem_toArray, List.getElem_cons_succ, List.getElem_cons_zero, List.setIfInBounds_toArray, List.set_cons_zero, List.set_cons_succ])
      refine wpAnyH_ready (rs := [11]) (by kernel_rfl) (by simp) ?_
      refine AllReadyH.cons (o := _) rfl (fun K hK => ?_) AllReadyH.nil
      go_simp
      refine hK.out _ _ S9.out (fun _ => ?_)
      refine wpAnyH_done (by kernel_rfl) ?_ _
      clear hK K hHeld8
      go_wp2_with fail
      go_ret
      refine ⟨rfl, ⟨g, gl, v, va', _, vs', d', rd, l', ss ++ [tstr p], safe, rs, true, HGA.out.1, ?_, by omega⟩, HB8.out.setCell (p := ⟨gx, 3, none⟩) HM.out.low.1 _⟩
      have hbl : bl (ss ++ [tstr p]) = bl ss ++ [p] := by simp [bl, tstr_list]
      rw [hbl]
      exact HOK.out
    · refine AllReadyH.cons (o := _) rfl (fun K hK => ?_) AllReadyH.nil
      go_simp
      obtain ⟨w7, hw7⟩ : ∃ w7, (w4.alloc (.cells #[.string (tstr p)] 9)).drew = w7 := ⟨_, rfl⟩
      have hb7 : Below w4.heap.size w4 w7 := by rw [← hw7]; exact Below.drew ((Below.refl _ _).alloc (Nat.le_refl _) _)
      have HSR7 : Hid (Src w7 (some ⟨w4.heap.size, 0, none⟩) [.string (tstr p)]) := by rw [Hid, ← hw7]; exact Src.of_blk (w := (w4.alloc (.cells #[.string (tstr p)] 9)).drew) (Blk.new w4 9 [.string (tstr p)])
      have HX7 := Lib.hid (HX4.out.below hb7)
      have HN7 := Lib.hid (HN4.out.below hb7 HN4.out.lt)
      have HB7 : Hid (Below B w w7) := HB4.out.trans (hb7.mono (Nat.le_trans hB HB4.out.size))
      have S7 : Hid (BytesAt w7 (some ⟨w.heap.size, 0, none⟩) p) := (Src.of_blk HN7.out).bytes
      have hs7 := HB7.out.size
      rw [hw7]
      clear hb7 hw7
      obtain ⟨t0, t1, t2, t3, t4, t5, t6, _, _, _, _, _, _, _⟩ := facts7 HX7.out.blk
      refine hK.out _ _ S7.out (fun hHeld7 => ?_)
      clear hK K
      (try simp only [Act.put, List.getElem_toArray, List.getElem_cons_succ, List.getElem_cons_zero, List.setIfInBounds_toArray, List.set_cons_zero, List.set_cons_succ])
      refine wpAnyH_ready (rs := [4]) (by kernel_rfl) (by simp) ?_
      refine AllReadyH.cons (o := _) rfl (fun K hK => ?_) AllReadyH.nil
      go_simp
      refine hK.out _ _ S7.out (fun _ => ?_)
      clear hK K t0 t1 t2 t3 t4 t5 t6
      (try simp only [Act.put, List.getElem_toArray, List.getElem_cons_succ, List.getElem_cons_zero, List.setIfInBounds_toArray, List.set_cons_zero, List.set_cons_succ])
      refine wpAnyH_ready (rs := [8]) (by kernel_rfl) (by simp) ?_
      refine AllReadyH.cons (o := _) rfl (fun K hK => ?_) AllReadyH.nil
      refine step_append_src _ rfl (.tmp 84) (.tmp 87) 45 rfl B 9 i0 (.string ⟨#[]⟩) 1 16 Tryd.underlying45 HI.out.1 HI.out.2.1 HI.out.2.2.1 HI.out.2.2.2 rfl (by decide) (.slice Al ss.length capl) ss.length (sv ss) rfl HX7.out.all (some ⟨w4.heap.size, 0, none⟩) 1 1 [.string (tstr p)] rfl rfl HSR7.out (by intro u hu; simp at hu; subst hu; rfl) h63.out hroom.out (Nat.le_trans hB hs7) ?_
      intro v8 w8 hown8 hgrow8 hat8
      have hown9 : w8.ownsRow B 9 1 v8 (ss ++ [tstr p]).length (sv (ss ++ [tstr p])) := by
        have : sv (ss ++ [tstr p]) = sv ss ++ [.string (tstr p)] := by simp [sv]
        rw [this, List.length_append]
        exact hown8
      have hGA := HX7.out.grewAll hgrow8 hown9
      have hk8 : Kinds (fun x => (Value.slice Al ss.length capl).ownBlock = some x) w7 [9] := fun x hx => ⟨_, by simp, own_typ HX7.out.all hx⟩
      have hN8 := hGA.2.2.blk_ hk8 HN7.out (by decide)
      have HB8 : Hid (Below B w w8) := HB7.out.trans (only_below hGA.2.2 (fun k hk => (HX7.out.all.lt k hk).1) (Nat.le_trans hB hs7))
      have S8 : Hid (BytesAt w8 (some ⟨w.heap.size, 0, none⟩) p) := (Src.of_blk hN8).bytes
      have S9 : Hid (BytesAt (w8.setCell ⟨gx, 3, none⟩ v8) (some ⟨w.heap.size, 0, none⟩) p) := by
        have hne : w.heap.size ≠ gx := fun e => by
          have := hGA.2.1.typ.uniq (e ▸ hN8.typ)
          revert this
          decide
        exact (Src.of_blk (((Only.refl (· = gx) w8).setCell (p := ⟨gx, 3, none⟩) (.inl rfl) v8).blk hN8 hne)).bytes
      obtain ⟨A8, cap8, rfl, _, _, _⟩ := own_src hown8
      obtain ⟨u0, u1, u2, u3, u4, u5, u6, g0, g1, g2, g3, g4, g5, g6⟩ := facts7 hGA.2.1
      have HGA := Lib.hid hGA
      clear hown8 hgrow8 hat8 hown9 hGA hk8 hN8
      refine hK.out _ _ S8.out (fun hHeld8 => ?_)
      clear hK K
      (try simp only [Act.put, List.getElem_toArray, List.getElem_cons_succ, List.getElem_cons_zero, List.setIfInBounds_toArray, List.set_cons_zero, List.set_cons_succ])
      refine wpAnyH_take (i := 9) (oi := _) (v := ?_) rfl (by kernel_rfl) (by kernel_rfl) (by kernel_rfl) (fun _ _ _ h => h) (Or.inl ⟨by rfl, ?_⟩) (by assumption) ?_
      rotate_left
      · intro W hSw
        (try dsimp only at hSw)
        go_simp
        rfl
      (try simp only [Act.put, List.getElem_toArray, List.getElem_cons_succ, List.getElem_cons_zero, List.setIfInBounds_toArray, List.set_cons_zero, List.set_cons_succ])
      refine wpAnyH_take (i := 10) (oi := _) (v := ?_) rfl (by kernel_rfl) (by kernel_rfl) (by kernel_rfl) (fun _ _ _ h => h) (Or.inl ⟨by rfl, ?_⟩) (by assumption) ?_
      rotate_left
      · intro W hSw
        (try dsimp only at hSw)
        go_simp
        rfl
      (try simp only [Act.put, List.getElem_toArray, List.getElem_cons_succ, List.getElem_cons_zero, List.setIfInBounds_toArray, List.set_cons_zero, List.set_cons_succ])
      refine wpAnyH_ready (rs := [11]) (by kernel_rfl) (by simp) ?_
      refine AllReadyH.cons (o := _) rfl (fun K hK => ?_) AllReadyH.nil
      go_simp
      refine hK.out _ _ S9.out (fun _ => ?_)
      refine wpAnyH_done (by kernel_rfl) ?_ _
      clear hK K hHeld8
      go_wp2_with fail
      go_ret
      refine ⟨rfl, ⟨g, gl, v, va', _, vs', d', rd, l', ss ++ [tstr p], safe, rs, true, HGA.out.1, ?_, by omega⟩, HB8.out.setCell (p := ⟨gx, 3, none⟩) HM.out.low.1 _⟩
      have hbl : bl (ss ++ [tstr p]) = bl ss ++ [p] := by simp [bl, tstr_list]
      rw [hbl]
      exact HOK.out
  · rw [hap] at hS
    have HS := Lib.hid hS
    have HOK := Lib.hid hok'
    have hss : ss.length ≤ 4097 := by
      rcases hcount with h | h
      · have := bl_length ss
        omega
      · cases h
    have h63 : Hid (ss.length + 1 ≤ maxLen) := by rw [Hid]; simp only [maxLen]; omega
    have hroom := Lib.hid (string_room (n := ss.length) (m := 1) (by omega))
    clear hS hap hok' hpl
    go_enter Tryd.func22, Tryd.ntmps22
    go_wp2_with fail
    refine HS.out.mono ?_
    rintro e w2 ⟨rfl, va', vs', hst, hsep, _, ho⟩
    have HX2 := Lib.hid (HM1.out.put hst hsep ho (Nat.le_trans hB HB1.out.size))
    have HN2 := Lib.hid (ho.blk_ HM1.out.log.kinds HN1.out (by decide))
    have HB2 : Hid (Below B w w2) := HB1.out.trans (only_below ho HM.out.low.2 (Nat.le_trans hB HB1.out.size))
    unfold errA
    obtain ⟨w2a, hw2a⟩ : ∃ w2a, w2.alloc (.cells #[.int .i64 0, .string ⟨#[]⟩, .bool true] 27) = w2a := ⟨_, rfl⟩
    have ha : Below w2.heap.size w2 w2a := by rw [← hw2a]; exact (Below.refl _ _).alloc (Nat.le_refl _) _
    have BE : Blk w2a w2.heap.size 27 [.int .i64 0, .string ⟨#[]⟩, .bool true] := by rw [← hw2a]; exact Blk.new w2 27 _
    obtain ⟨z0, z1, z2, _, _, _⟩ := facts3 BE
    have HXa := Lib.hid (HX2.out.below ha)
    have HBa : Hid (Below B w w2a) := HB2.out.trans (ha.mono (Nat.le_trans hB HB2.out.size))
    have HN2a := Lib.hid (HN2.out.below ha HN2.out.lt)
    clear hst hsep ho ha
    clear x0 x1 x2 x3 x4 x5 x6 y0 y1 y2 y3 y4 y5 y6
    obtain ⟨x0, x1, x2, x3, x4, x5, x6, y0, y1, y2, y3, y4, y5, y6⟩ := facts7 HXa.out.blk
    have HTF := Lib.hid (ktold_fine gx _ _ _ _ _ _ w2a HXa.out.blk)
    unfold errA at HTF
    go_wp2_with fail
    refine HTF.out.mono ?_
    rintro e w4 ⟨rfl, hb4⟩
    have HX4 := Lib.hid (HXa.out.below hb4)
    have HB4 : Hid (Below B w w4) := HBa.out.trans (hb4.mono (Nat.le_trans hB HBa.out.size))
    have HN4 := Lib.hid (HN2a.out.below hb4 HN2a.out.lt)
    clear hb4 z0 z1 z2 x0 x1 x2 x3 x4 x5 x6 y0 y1 y2 y3 y4 y5 y6
    obtain ⟨x0, x1, x2, x3, x4, x5, x6, y0, y1, y2, y3, y4, y5, y6⟩ := facts7 HX4.out.blk
    go_wp2_with fail
    have S4d : Hid (BytesAt w4.drew (some ⟨w.heap.size, 0, none⟩) p) := (Src.of_blk HN4.out.drew).bytes
    refine wp_region_held_drew (S := (fun W : World => BytesAt W (some ⟨w.heap.size, 0, none⟩) p)) (by kernel_rfl) S4d.out (fun hHeld => ?_)
    refine wpAnyH_take (i := 0) (oi := _) (v := ?_) rfl (by kernel_rfl) (by kernel_rfl) (by kernel_rfl) (fun _ _ _ h => h) (Or.inl ⟨by rfl, ?_⟩) (by assumption) ?_
    rotate_left
    · intro W hSw
      (try dsimp only at hSw)
      go_simp
      rfl
    (try simp only [Act.put, List.getElem_toArray, List.getElem_cons_succ, List.getElem_cons_zero, List.setIfInBounds_toArray, List.set_cons_zero, List.set_cons_succ])
    refine wpAnyH_take (i := 1) (oi := _) (v := ?_) rfl (by kernel_rfl) (by kernel_rfl) (by kernel_rfl) (fun _ _ _ h => h) (Or.inl ⟨by rfl, ?_⟩) (by assumption) ?_
    rotate_left
    · intro W hSw
      (try dsimp only at hSw)
      go_simp
      rfl
    (try simp only [Act.put, List.getElem_toArray, List.getElem_cons_succ, List.getElem_cons_zero, List.setIfInBounds_toArray, List.set_cons_zero, List.set_cons_succ])
    refine wpAnyH_take (i := 2) (oi := _) (v := ?_) rfl (by kernel_rfl) (by kernel_rfl) (by kernel_rfl) (fun _ _ _ h => h) (Or.inl ⟨by rfl, ?_⟩) (by assumption) ?_
    rotate_left
    · intro W hSw
      (try dsimp only at hSw)
      go_simp
      rfl
    (try simp only [Act.put, List.getElem_toArray, List.getElem_cons_succ, List.getElem_cons_zero, List.setIfInBounds_toArray, List.set_cons_zero, List.set_cons_succ])
    refine wpAnyH_take (i := 3) (oi := _) (v := ?_) rfl (by kernel_rfl) (by kernel_rfl) (by kernel_rfl) (fun _ _ _ h => h) (Or.inl ⟨by rfl, ?_⟩) (by assumption) ?_
    rotate_left
    · intro W hSw
      (try dsimp only at hSw)
      go_simp
      rfl
    (try simp only [Act.put, List.getElem_toArray, List.getElem_cons_succ, List.getElem_cons_zero, List.setIfInBounds_toArray, List.set_cons_zero, List.set_cons_succ])
    refine wpAnyH_take (i := 5) (oi := _) (v := ?_) rfl (by kernel_rfl) (by kernel_rfl) (by kernel_rfl) (fun _ _ _ h => h) (Or.inl ⟨by rfl, ?_⟩) (by assumption) ?_
    rotate_left
    · intro W hSw
      (try dsimp only at hSw)
      go_simp
      rfl
    (try simp only [Act.put, List.getElem_toArray, List.getElem_cons_succ, List.getElem_cons_zero, List.setIfInBounds_toArray, List.set_cons_zero, List.set_cons_succ])
    refine wpAnyH_take (i := 6) (oi := _) (v := ?_) rfl (by kernel_rfl) (by kernel_rfl) (by kernel_rfl) (fun _ _ _ h => h) (Or.inl ⟨by rfl, ?_⟩) (by assumption) ?_
    rotate_left
    · intro W hSw
      have hcv := run_tostr W (some ⟨w.heap.size, 0, none⟩) p (m + 1) hSw
      rw [HPL.out] at hcv
      go_simp
      rfl
    (try simp only [Act.put, List.getElem_toArray, List.getElem_cons_succ, List.getElem_cons_zero, List.setIfInBounds_toArray, List.set_cons_zero, List.set_cons_succ])
    refine wpAnyH_ready (rs := [4, 7]) (by kernel_rfl) (by simp) ?_
    refine AllReadyH.cons (o := _) rfl (fun K hK => ?_) ?_
    · go_simp
      refine hK.out _ _ S4d.out (fun _ => ?_)
      clear hK K
      (try simp only [Act.put, List.getElem_toArray, List.getElem_cons_succ, List.getElem_cons_zero, List.setIfInBounds_toArray, List.set_cons_zero, List.set_cons_succ])
      refine wpAnyH_ready (rs := [7]) (by kernel_rfl) (by simp) ?_
      refine AllReadyH.cons (o := _) rfl (fun K hK => ?_) AllReadyH.nil
      go_simp
      obtain ⟨w7, hw7⟩ : ∃ w7, (w4.alloc (.cells #[.string (tstr p)] 9)).drew = w7 := ⟨_, rfl⟩
      have hb7 : Below w4.heap.size w4 w7 := by rw [← hw7]; exact Below.drew ((Below.refl _ _).alloc (Nat.le_refl _) _)
      have HSR7 : Hid (Src w7 (some ⟨w4.heap.size, 0, none⟩) [.string (tstr p)]) := by rw [Hid, ← hw7]; exact Src.of_blk (w := (w4.alloc (.cells #[.string (tstr p)] 9)).drew) (Blk.new w4 9 [.string (tstr p)])
      have HX7 := Lib.hid (HX4.out.below hb7)
      have HN7 := Lib.hid (HN4.out.below hb7 HN4.out.lt)
      have HB7 : Hid (Below B w w7) := HB4.out.trans (hb7.mono (Nat.le_trans hB HB4.out.size))
      have S7 : Hid (BytesAt w7 (some ⟨w.heap.size, 0, none⟩) p) := (Src.of_blk HN7.out).bytes
      have hs7 := HB7.out.size
      rw [hw7]
      clear hb7 hw7
      refine hK.out _ _ S7.out (fun hHeld7 => ?_)
      clear hK K
      (try simp only [Act.put, List.getElem_toArray, List.getElem_cons_succ, List.getElem_cons_zero, List.setIfInBounds_toArray, List.set_cons_zero, List.set_cons_succ])
      refine wpAnyH_ready (rs := [8]) (by kernel_rfl) (by simp) ?_
      refine AllReadyH.cons (o := _) rfl (fun K hK => ?_) AllReadyH.nil
      refine step_append_src _ rfl (.tmp 84) (.tmp 87) 45 rfl B 9 i0 (.string ⟨#[]⟩) 1 16 Tryd.underlying45 HI.out.1 HI.out.2.1 HI.out.2.2.1 HI.out.2.2.2 rfl (by decide) (.slice Al ss.length capl) ss.length (sv ss) rfl HX7.out.all (some ⟨w4.heap.size, 0, none⟩) 1 1 [.string (tstr p)] rfl rfl HSR7.out (by intro u hu; simp at hu; subst hu; rfl) h63.out hroom.out (Nat.le_trans hB hs7) ?_
      intro v8 w8 hown8 hgrow8 hat8
      have hown9 : w8.ownsRow B 9 1 v8 (ss ++ [tstr p]).length (sv (ss ++ [tstr p])) := by
        have : sv (ss ++ [tstr p]) = sv ss ++ [.string (tstr p)] := by simp [sv]
        rw [this, List.length_append]
        exact hown8
      have hGA := HX7.out.grewAll hgrow8 hown9
      have hk8 : Kinds (fun x => (Value.slice Al ss.length capl).ownBlock = some x) w7 [9] := fun x hx => ⟨_, by simp, own_typ HX7.out.all hx⟩
      have hN8 := hGA.2.2.blk_ hk8 HN7.out (by decide)
      have HB8 : Hid (Below B w w8) := HB7.out.trans (only_below hGA.2.2 (fun k hk => (HX7.out.all.lt k hk).1) (Nat.le_trans hB hs7))
      have S8 : Hid (BytesAt w8 (some ⟨w.heap.size, 0, none⟩) p) := (Src.of_blk hN8).bytes
      have S9 : Hid (BytesAt (w8.setCell ⟨gx, 3, none⟩ v8) (some ⟨w.heap.size, 0, none⟩) p) := by
        have hne : w.heap.size ≠ gx := fun e => by
          have := hGA.2.1.typ.uniq (e ▸ hN8.typ)
          revert this
          decide
        exact (Src.of_blk (((Only.refl (· = gx) w8).setCell (p := ⟨gx, 3, none⟩) (.inl rfl) v8).blk hN8 hne)).bytes
      obtain ⟨A8, cap8, rfl, _, _, _⟩ := own_src hown8
      obtain ⟨u0, u1, u2, u3, u4, u5, u6, g0, g1, g2, g3, g4, g5, g6⟩ := facts7 hGA.2.1
      have HGA := Lib.hid hGA
      clear hown8 hgrow8 hat8 hown9 hGA hk8 hN8
      refine hK.out _ _ S8.out (fun hHeld8 => ?_)
      clear hK K
      (try simp only [Act.put, List.getElem_toArray, List.getElem_cons_succ, List.getElem_cons_zero, List.setIfInBounds_toArray, List.set_cons_zero, List.set_cons_succ])
      refine wpAnyH_take (i := 9) (oi := _) (v := ?_) rfl (by kernel_rfl) (by kernel_rfl) (by kernel_rfl) (fun _ _ _ h => h) (Or.inl ⟨by rfl, ?_⟩) (by assumption) ?_
      rotate_left
      · intro W hSw
        (try dsimp only at hSw)
        go_simp
        rfl
      (try simp only [Act.put, List.getElem_toArray, List.getElem_cons_succ, List.getElem_cons_zero, List.setIfInBounds_toArray, List.set_cons_zero, List.set_cons_succ])
      refine wpAnyH_take (i := 10) (oi := _) (v := ?_) rfl (by kernel_rfl) (by kernel_rfl) (by kernel_rfl) (fun _ _ _ h => h) (Or.inl ⟨by rfl, ?_⟩) (by assumption) ?_
      rotate_left
      · intro W hSw
        (try dsimp only at hSw)
        go_simp
        rfl
      (try simp only [Act.put, List.getElem_toArray, List.getElem_cons_succ, List.getElem_cons_zero, List.setIfInBounds_toArray, List.set_cons_zero, List.set_cons_succ])
      refine wpAnyH_ready (rs := [11]) (by kernel_rfl) (by simp) ?_
      refine AllReadyH.cons (o := _) rfl (fun K hK => ?_) AllReadyH.nil
      go_simp
      refine hK.out _ _ S9.out (fun _ => ?_)
      refine wpAnyH_done (by kernel_rfl) ?_ _
      clear hK K hHeld8
      go_wp2_with fail
      go_ret
      refine ⟨rfl, ⟨g, gl, v, va', _, vs', d', rd, l', ss ++ [tstr p], safe, rs, false, HGA.out.1, ?_, by omega⟩, HB8.out.setCell (p := ⟨gx, 3, none⟩) HM.out.low.1 _⟩
      have hbl : bl (ss ++ [tstr p]) = bl ss ++ [p] := by simp [bl, tstr_list]
      rw [hbl]
      exact HOK.out
    · refine AllReadyH.cons (o := _) rfl (fun K hK => ?_) AllReadyH.nil
      go_simp
      obtain ⟨w7, hw7⟩ : ∃ w7, (w4.alloc (.cells #[.string (tstr p)] 9)).drew = w7 := ⟨_, rfl⟩
      have hb7 : Below w4.heap.size w4 w7 := by rw [← hw7]; exact Below.drew ((Below.refl _ _).alloc (Nat.le_refl _) _)
      have HSR7 : Hid (Src w7 (some ⟨w4.heap.size, 0, none⟩) [.string (tstr p)]) := by rw [Hid, ← hw7]; exact Src.of_blk (w := (w4.alloc (.cells #[.string (tstr p)] 9)).drew) (Blk.new w4 9 [.string (tstr p)])
      have HX7 := Lib.hid (HX4.out.below hb7)
      have HN7 := Lib.hid (HN4.out.below hb7 HN4.out.lt)
      have HB7 : Hid (Below B w w7) := HB4.out.trans (hb7.mono (Nat.le_trans hB HB4.out.size))
      have S7 : Hid (BytesAt w7 (some ⟨w.heap.size, 0, none⟩) p) := (Src.of_blk HN7.out).bytes
      have hs7 := HB7.out.size
      rw [hw7]
      clear hb7 hw7
      obtain ⟨t0, t1, t2, t3, t4, t5, t6, _, _, _, _, _, _, _⟩ := facts7 HX7.out.blk
      refine hK.out _ _ S7.out (fun hHeld7 => ?_)
      clear hK K
      (try simp only [Act.put, List.getElem_toArray, List.getElem_cons_succ, List.getElem_cons_zero, List.setIfInBounds_toArray, List.set_cons_zero, List.set_cons_succ])
      refine wpAnyH_ready (rs := [4]) (by kernel_rfl) (by simp) ?_
      refine AllReadyH.cons (o := _) rfl (fun K hK => ?_) AllReadyH.nil
      go_simp
      refine hK.out _ _ S7.out (fun _ => ?_)
      clear hK K t0 t1 t2 t3 t4 t5 t6
      (try simp only [Act.put, List.getElem_toArray, List.getElem_cons_succ, List.getElem_cons_zero, List.setIfInBounds_toArray, List.set_cons_zero, List.set_cons_succ])
      refine wpAnyH_ready (rs := [8]) (by kernel_rfl) (by simp) ?_
      refine AllReadyH.cons (o := _) rfl (fun K hK => ?_) AllReadyH.nil
      refine step_append_src _ rfl (.tmp 84) (.tmp 87) 45 rfl B 9 i0 (.string ⟨#[]⟩) 1 16 Tryd.underlying45 HI.out.1 HI.out.2.1 HI.out.2.2.1 HI.out.2.2.2 rfl (by decide) (.slice Al ss.length capl) ss.length (sv ss) rfl HX7.out.all (some ⟨w4.heap.size, 0, none⟩) 1 1 [.string (tstr p)] rfl rfl HSR7.out (by intro u hu; simp at hu; subst hu; rfl) h63.out hroom.out (Nat.le_trans hB hs7) ?_
      intro v8 w8 hown8 hgrow8 hat8
      have hown9 : w8.ownsRow B 9 1 v8 (ss ++ [tstr p]).length (sv (ss ++ [tstr p])) := by
        have : sv (ss ++ [tstr p]) = sv ss ++ [.string (tstr p)] := by simp [sv]
        rw [this, List.length_append]
        exact hown8
      have hGA := HX7.out.grewAll hgrow8 hown9
      have hk8 : Kinds (fun x => (Value.slice Al ss.length capl).ownBlock = some x) w7 [9] := fun x hx => ⟨_, by simp, own_typ HX7.out.all hx⟩
      have hN8 := hGA.2.2.blk_ hk8 HN7.out (by decide)
      have HB8 : Hid (Below B w w8) := HB7.out.trans (only_below hGA.2.2 (fun k hk => (HX7.out.all.lt k hk).1) (Nat.le_trans hB hs7))
      have S8 : Hid (BytesAt w8 (some ⟨w.heap.size, 0, none⟩) p) := (Src.of_blk hN8).bytes
      have S9 : Hid (BytesAt (w8.setCell ⟨gx, 3, none⟩ v8) (some ⟨w.heap.size, 0, none⟩) p) := by
        have hne : w.heap.size ≠ gx := fun e => by
          have := hGA.2.1.typ.uniq (e ▸ hN8.typ)
          revert this
          decide
        exact (Src.of_blk (((Only.refl (· = gx) w8).setCell (p := ⟨gx, 3, none⟩) (.inl rfl) v8).blk hN8 hne)).bytes
      obtain ⟨A8, cap8, rfl, _, _, _⟩ := own_src hown8
      obtain ⟨u0, u1, u2, u3, u4, u5, u6, g0, g1, g2, g3, g4, g5, g6⟩ := facts7 hGA.2.1
      have HGA := Lib.hid hGA
      clear hown8 hgrow8 hat8 hown9 hGA hk8 hN8
      refine hK.out _ _ S8.out (fun hHeld8 => ?_)
      clear hK K
      (try simp only [Act.put, List.getElem_toArray, List.getElem_cons_succ, List.getElem_cons_zero, List.setIfInBounds_toArray, List.set_cons_zero, List.set_cons_succ])
      refine wpAnyH_take (i := 9) (oi := _) (v := ?_) rfl (by kernel_rfl) (by kernel_rfl) (by kernel_rfl) (fun _ _ _ h => h) (Or.inl ⟨by rfl, ?_⟩) (by assumption) ?_
      rotate_left
      · intro W hSw
        (try dsimp only at hSw)
        go_simp
        rfl
      (try simp only [Act.put, List.getElem_toArray, List.getElem_cons_succ, List.getElem_cons_zero, List.setIfInBounds_toArray, List.set_cons_zero, List.set_cons_succ])
      refine wpAnyH_take (i := 10) (oi := _) (v := ?_) rfl (by kernel_rfl) (by kernel_rfl) (by kernel_rfl) (fun _ _ _ h => h) (Or.inl ⟨by rfl, ?_⟩) (by assumption) ?_
      rotate_left
      · intro W hSw
        (try dsimp only at hSw)
        go_simp
        rfl
      (try simp only [Act.put, List.getElem_toArray, List.getElem_cons_succ, List.getElem_cons_zero, List.setIfInBounds_toArray, List.set_cons_zero, List.set_cons_succ])
      refine wpAnyH_ready (rs := [11]) (by kernel_rfl) (by simp) ?_
      refine AllReadyH.cons (o := _) rfl (fun K hK => ?_) AllReadyH.nil
      go_simp
      refine hK.out _ _ S9.out (fun _ => ?_)
      refine wpAnyH_done (by kernel_rfl) ?_ _
      clear hK K hHeld8
      go_wp2_with fail
      go_ret
      refine ⟨rfl, ⟨g, gl, v, va', _, vs', d', rd, l', ss ++ [tstr p], safe, rs, false, HGA.out.1, ?_, by omega⟩, HB8.out.setCell (p := ⟨gx, 3, none⟩) HM.out.low.1 _⟩
      have hbl : bl (ss ++ [tstr p]) = bl ss ++ [p] := by simp [bl, tstr_list]
      rw [hbl]
      exact HOK.out

set_option maxHeartbeats 2000000 in
set_option maxRecDepth 100000 in
theorem act_append2 (B gx data k i : Nat) (s : ByteArray) (w : World) (hi : i < s.size) (h : KLog B w gx data k) (hG : GE w) (hGB : 0 < B) (hB : B ≤ w.heap.size) (hk : k ≤ 5000) (hc : s[i].toNat % 8 = 2) :
    Calls Tryd.prog 22 #[.pointer (some ⟨gx, 0, none⟩), .string s, .int .i64 (i : Nat)] w (ActPost B gx data k w) := by
  obtain ⟨g, gl, v, va, vall, vs, d, rd, l, ss, safe, rs, bad, hm, hok, hep⟩ := h
  obtain ⟨c, hcc⟩ : ∃ c, s[i] = c := ⟨_, rfl⟩
  rw [hcc] at hc
  have hq : ∃ q : Nat, q ≤ 31 ∧ ((c.toNat : Nat) : Int).tdiv 8 = (q : Int) := ⟨c.toNat / 8, by have := c.toNat_lt; omega, by rw [Int.tdiv_eq_ediv_of_nonneg (by omega)]; omega⟩
  obtain ⟨q, hq1, hq2⟩ := hq
  have hr : ((c.toNat : Nat) : Int).tmod 8 = 2 := by rw [Int.tmod_eq_emod_of_nonneg (by omega)]; omega
  have hi2 : (i : Int) < (s.size : Int) := by omega
  have hgf : ¬ lFa gl g v va 0 := fun e => by have := hm.low.2 _ e; omega
  obtain ⟨x0, x1, x2, x3, x4, x5, x6, y0, y1, y2, y3, y4, y5, y6⟩ := facts7 hm.blk
  obtain ⟨m, hmq⟩ : ∃ m, q * (1 + q) = m := ⟨_, rfl⟩
  have hm992 : m ≤ 992 := by
    rw [← hmq]
    exact Nat.mul_le_mul hq1 (by omega : 1 + q ≤ 32)
  have hmi : ((q : Nat) : Int) * (1 + ((q : Nat) : Int)) = (m : Int) := by rw [← hmq]; push_cast; rfl
  have hmk := make_bytes (1 + (m : Int)) (m + 1) (by omega) (by omega)
  have hpos : (0 : Int) ≤ 1 + (m : Int) := by omega
  obtain ⟨Al, capl, rfl, _, _, _⟩ := own_src hm.all
  obtain ⟨u8v, hu8⟩ : ∃ u : UInt8, ((u.toNat : Nat) : Int) = IntKind.u8.wrap ((ss.length : Nat) : Int) := ⟨UInt8.ofNat ss.length, by simp [IntKind.wrap, IntKind.signed, IntKind.bits]⟩
  obtain ⟨p, hp⟩ : ∃ p, ((Pl.zeros (m + 1)).set 0 c).set m u8v = p := ⟨_, rfl⟩
  have hpl : p.length = m + 1 := by rw [← hp]; simp [Pl.zeros]
  obtain ⟨wa, hwa⟩ : ∃ wa, w.alloc (.cells ((zrow (m + 1)).set 0 (.int .u8 ((c.toNat : Nat) : Int))).toArray 5) = wa := ⟨_, rfl⟩
  have hba : Below w.heap.size w wa := by rw [← hwa]; exact (Below.refl _ _).alloc (Nat.le_refl _) _
  have hNa : Blk wa w.heap.size 5 ((zrow (m + 1)).set 0 (.int .u8 ((c.toNat : Nat) : Int))) := by rw [← hwa]; exact Blk.new w 5 _
  have hxm : ∃ x, wa.cell? ⟨w.heap.size, m, none⟩ = some x := by
    rw [hNa.cell m]
    exact ⟨_, List.getElem?_eq_getElem (by rw [List.length_set]; simp [zrow])⟩
  obtain ⟨xm, hxm⟩ := hxm
  have qm := hNa.frozen m
  have hN1 : Blk (wa.setCell ⟨w.heap.size, m, none⟩ (.int .u8 ((u8v.toNat : Nat) : Int))) w.heap.size 5 (bv p) := by
    have h1 := hNa.set_ m (.int .u8 ((u8v.toNat : Nat) : Int))
    have h2 : ((zrow (m + 1)).set 0 (.int .u8 ((c.toNat : Nat) : Int))).set m (.int .u8 ((u8v.toNat : Nat) : Int)) = bv p := by
      rw [← hp]
      unfold bv Pl.zeros zrow
      rw [List.map_set, List.map_set, List.map_replicate]
      rfl
    rw [← h2]
    exact h1
  have hma := hm.below hba
  obtain ⟨w1, hw1⟩ : ∃ w1, wa.setCell ⟨w.heap.size, m, none⟩ (.int .u8 ((u8v.toNat : Nat) : Int)) = w1 := ⟨_, rfl⟩
  rw [hw1] at hN1
  have hb1 : Below w.heap.size w w1 := by rw [← hw1]; exact hba.setCell (p := ⟨w.heap.size, m, none⟩) (Nat.le_refl _) _
  have hm1 := hm.below hb1
  have hfit : l.first + 2 + l.data ≤ d.secs.length := by
    obtain ⟨_, _, hh, _⟩ := hok.held
    have := hh.room
    have := hok.first
    have := hok.dat
    omega
  have hsm := hm.log.cells.small
  have hcnt := Pl.flat_count l.all (fun p hp => (hok.small p hp).1)
  have hnx := hok.next
  have hlt : ∀ q, lFa gl g v va q → q < w.heap.size := hm.log.lt
  have hS := pAppend_any gl g v va vs d rd l p (some ⟨w.heap.size, 0, none⟩) (m + 1) w1 hm1.log (hG.below hb1) hgf (Src.of_blk hN1).bytes (fun q hq => by
    injection hq with hq
    rw [← hq]
    exact ⟨hN1.lt, fun e => Nat.lt_irrefl _ (hlt _ e)⟩) (by omega) (by omega) hfit (by omega)
  rw [hpl] at hS
  obtain ⟨i0, hi0, hz0, hz1, hz2⟩ := info_parts Tryd.infoString
  have HI := Lib.hid (And.intro hi0 (And.intro hz0 (And.intro hz1 hz2)))
  have HM := Lib.hid hm
  have HM1 := Lib.hid hm1
  have HN1 := Lib.hid hN1
  have HB1 : Hid (Below B w w1) := hb1.mono hB
  have HPL := Lib.hid hpl
  have hu8' := hu8.symm
  obtain ⟨t0, t1, t2, t3, t4, t5, t6, _, _, _, _, _, _, _⟩ := facts7 hma.blk
  clear x0 x1 x2 x3 x4 x5 x6 y0 y1 y2 y3 y4 y5 y6
  obtain ⟨x0, x1, x2, x3, x4, x5, x6, y0, y1, y2, y3, y4, y5, y6⟩ := facts7 hm1.blk
  have hap := hok.appends p ⟨by omega, by omega⟩
  have hcount := hok.count
  have hda := hok.dat
  have HK := Lib.hid hok
  clear hm hma hm1 hba hb1 hNa hN1 hok hG hfit hcnt hnx hlt hp hi0 hz0 hz1 hz2 hu8
  rcases hap with hap | ⟨rfl, hap⟩ | ⟨rfl, l', d', hap, hok', hep'⟩ | ⟨rfl, l', d', hap, hok', hep'⟩
  · rw [hap] at hS
    have HS := Lib.hid hS
    clear hS hap hpl
    go_enter Tryd.func22, Tryd.ntmps22
    go_wp2_with fail
    refine HS.out.mono ?_
    rintro e w2 ⟨rfl, va', vs', hst, hsep, _, ho⟩
    have HX2 := Lib.hid (HM1.out.put hst hsep ho (Nat.le_trans hB HB1.out.size))
    have HN2 := Lib.hid (ho.blk_ HM1.out.log.kinds HN1.out (by decide))
    have HB2 : Hid (Below B w w2) := HB1.out.trans (only_below ho HM.out.low.2 (Nat.le_trans hB HB1.out.size))
    unfold errA
    obtain ⟨w2a, hw2a⟩ : ∃ w2a, w2.alloc (.cells #[.int .i64 5, .string ⟨#[]⟩, .bool true] 27) = w2a := ⟨_, rfl⟩
    have ha : Below w2.heap.size w2 w2a := by rw [← hw2a]; exact (Below.refl _ _).alloc (Nat.le_refl _) _
    have BE : Blk w2a w2.heap.size 27 [.int .i64 5, .string ⟨#[]⟩, .bool true] := by rw [← hw2a]; exact Blk.new w2 27 _
    obtain ⟨z0, z1, z2, _, _, _⟩ := facts3 BE
    have HXa := Lib.hid (HX2.out.below ha)
    have HBa : Hid (Below B w w2a) := HB2.out.trans (ha.mono (Nat.le_trans hB HB2.out.size))
    have HN2a := Lib.hid (HN2.out.below ha HN2.out.lt)
    clear hst hsep ho ha
    clear x0 x1 x2 x3 x4 x5 x6 y0 y1 y2 y3 y4 y5 y6
    obtain ⟨x0, x1, x2, x3, x4, x5, x6, y0, y1, y2, y3, y4, y5, y6⟩ := facts7 HXa.out.blk
    go_wp2_with fail
    go_ret
    exact ⟨rfl, ⟨g, gl, v, va', _, vs', d, rd, l, ss, safe, rs, bad, HXa.out, HK.out, by omega⟩, HBa.out⟩
  · rw [hap] at hS
    have HS := Lib.hid hS
    clear hS hap hpl
    go_enter Tryd.func22, Tryd.ntmps22
    go_wp2_with fail
    refine HS.out.mono ?_
    rintro e w2 ⟨rfl, va', vs', hst, hsep, _, ho⟩
    have HX2 := Lib.hid (HM1.out.put hst hsep ho (Nat.le_trans hB HB1.out.size))
    have HN2 := Lib.hid (ho.blk_ HM1.out.log.kinds HN1.out (by decide))
    have HB2 : Hid (Below B w w2) := HB1.out.trans (only_below ho HM.out.low.2 (Nat.le_trans hB HB1.out.size))
    unfold errA
    obtain ⟨w2a, hw2a⟩ : ∃ w2a, w2.alloc (.cells #[.int .i64 3, .string ⟨#[]⟩, .bool true] 27) = w2a := ⟨_, rfl⟩
    have ha : Below w2.heap.size w2 w2a := by rw [← hw2a]; exact (Below.refl _ _).alloc (Nat.le_refl _) _
    have BE : Blk w2a w2.heap.size 27 [.int .i64 3, .string ⟨#[]⟩, .bool true] := by rw [← hw2a]; exact Blk.new w2 27 _
    obtain ⟨z0, z1, z2, _, _, _⟩ := facts3 BE
    have HXa := Lib.hid (HX2.out.below ha)
    have HBa : Hid (Below B w w2a) := HB2.out.trans (ha.mono (Nat.le_trans hB HB2.out.size))
    have HN2a := Lib.hid (HN2.out.below ha HN2.out.lt)
    clear hst hsep ho ha
    clear x0 x1 x2 x3 x4 x5 x6 y0 y1 y2 y3 y4 y5 y6
    obtain ⟨x0, x1, x2, x3, x4, x5, x6, y0, y1, y2, y3, y4, y5, y6⟩ := facts7 HXa.out.blk
    have HTD := Lib.hid (ktold_died gx g v _ _ _ _ _ _ d rd w2a HXa.out.blk HXa.out.log.disk (HK.out.life.2 rfl))
    unfold errA at HTD
    go_wp2_with fail
    refine HTD.out.mono ?_
    rintro e w4 ⟨rfl, w3, hb3, hw4⟩
    have HX4 : Hid (KMem B w4 gx g gl (data + 2) v va' (.slice Al ss.length capl) vs' d rd l ss safe rs true) := by rw [hw4]; exact (HXa.out.below hb3).setBad true
    have HB4 : Hid (Below B w w4) := by rw [hw4]; exact (HBa.out.trans (hb3.mono (Nat.le_trans hB HBa.out.size))).setCell (p := ⟨gx, 6, none⟩) HM.out.low.1 _
    clear hb3 hw4 z0 z1 z2 x0 x1 x2 x3 x4 x5 x6 y0 y1 y2 y3 y4 y5 y6
    obtain ⟨x0, x1, x2, x3, x4, x5, x6, y0, y1, y2, y3, y4, y5, y6⟩ := facts7 HX4.out.blk
    go_wp2_with fail
    go_ret
    exact ⟨rfl, ⟨g, gl, v, va', _, vs', d, rd, l, ss, safe, rs, true, HX4.out, HK.out, by omega⟩, HB4.out⟩
  · rw [hap] at hS
    have HS := Lib.hid hS
    have HOK := Lib.hid hok'
    have hss : ss.length ≤ 4097 := by
      rcases hcount with h | h
      · have := bl_length ss
        omega
      · cases h
    have h63 : Hid (ss.length + 1 ≤ maxLen) := by rw [Hid]; simp only [maxLen]; omega
    have hroom := Lib.hid (string_room (n := ss.length) (m := 1) (by omega))
    clear hS hap hok' hpl
    go_enter Tryd.func22, Tryd.ntmps22
    go_wp2_with fail
    refine HS.out.mono ?_
    rintro e w2 ⟨rfl, va', vs', hst, hsep, _, ho⟩
    have HX2 := Lib.hid (HM1.out.put hst hsep ho (Nat.le_trans hB HB1.out.size))
    have HN2 := Lib.hid (ho.blk_ HM1.out.log.kinds HN1.out (by decide))
    have HB2 : Hid (Below B w w2) := HB1.out.trans (only_below ho HM.out.low.2 (Nat.le_trans hB HB1.out.size))
    unfold errA
    obtain ⟨w2a, hw2a⟩ : ∃ w2a, w2.alloc (.cells #[.int .i64 3, .string ⟨#[]⟩, .bool true] 27) = w2a := ⟨_, rfl⟩
    have ha : Below w2.heap.size w2 w2a := by rw [← hw2a]; exact (Below.refl _ _).alloc (Nat.le_refl _) _
    have BE : Blk w2a w2.heap.size 27 [.int .i64 3, .string ⟨#[]⟩, .bool true] := by rw [← hw2a]; exact Blk.new w2 27 _
    obtain ⟨z0, z1, z2, _, _, _⟩ := facts3 BE
    have HXa := Lib.hid (HX2.out.below ha)
    have HBa : Hid (Below B w w2a) := HB2.out.trans (ha.mono (Nat.le_trans hB HB2.out.size))
    have HN2a := Lib.hid (HN2.out.below ha HN2.out.lt)
    clear hst hsep ho ha
    clear x0 x1 x2 x3 x4 x5 x6 y0 y1 y2 y3 y4 y5 y6
    obtain ⟨x0, x1, x2, x3, x4, x5, x6, y0, y1, y2, y3, y4, y5, y6⟩ := facts7 HXa.out.blk
    have HTD := Lib.hid (ktold_died gx g v _ _ _ _ _ _ d' rd w2a HXa.out.blk HXa.out.log.disk (HOK.out.life.2 rfl))
    unfold errA at HTD
    go_wp2_with fail
    refine HTD.out.mono ?_
    rintro e w4 ⟨rfl, w3, hb3, hw4⟩
    have HX4 : Hid (KMem B w4 gx g gl (data + 2) v va' (.slice Al ss.length capl) vs' d' rd l' ss safe rs true) := by rw [hw4]; exact (HXa.out.below hb3).setBad true
    have HB4 : Hid (Below B w w4) := by rw [hw4]; exact (HBa.out.trans (hb3.mono (Nat.le_trans hB HBa.out.size))).setCell (p := ⟨gx, 6, none⟩) HM.out.low.1 _
    have HN4 : Hid (Blk w4 w.heap.size 5 (bv p)) := by
      rw [hw4]
      have h1 := HN2a.out.below hb3 HN2a.out.lt
      have h2 := (HXa.out.below hb3).blk
      refine ((Only.refl (· = gx) w3).setCell (p := ⟨gx, 6, none⟩) (.inl rfl) (.bool true)).blk h1 (fun e => ?_)
      have := h2.typ.uniq (e ▸ h1.typ)
      revert this
      decide
    clear hb3 hw4 z0 z1 z2 x0 x1 x2 x3 x4 x5 x6 y0 y1 y2 y3 y4 y5 y6
    obtain ⟨x0, x1, x2, x3, x4, x5, x6, y0, y1, y2, y3, y4, y5, y6⟩ := facts7 HX4.out.blk
    go_wp2_with fail
    have S4d : Hid (BytesAt w4.drew (some ⟨w.heap.size, 0, none⟩) p) := (Src.of_blk HN4.out.drew).bytes
    refine wp_region_held_drew (S := (fun W : World => BytesAt W (some ⟨w.heap.size, 0, none⟩) p)) (by kernel_rfl) S4d.out (fun hHeld => ?_)
    refine wpAnyH_take (i := 0) (oi := _) (v := ?_) rfl (by kernel_rfl) (by kernel_rfl) (by kernel_rfl) (fun _ _ _ h => h) (Or.inl ⟨by rfl, ?_⟩) (by assumption) ?_
    rotate_left
    · intro W hSw
      (try dsimp only at hSw)
      go_simp
      rfl
    (try simp only [Act.put, List.getElem_toArray, List.getElem_cons_succ, List.getElem_cons_zero, List.setIfInBounds_toArray, List.set_cons_zero, List.set_cons_succ])
    refine wpAnyH_take (i := 1) (oi := _) (v := ?_) rfl (by kernel_rfl) (by kernel_rfl) (by kernel_rfl) (fun _ _ _ h => h) (Or.inl ⟨by rfl, ?_⟩) (by assumption) ?_
    rotate_left
    · intro W hSw
      (try dsimp only at hSw)
      go_simp
      rfl
    (try simp only [Act.put, List.getElem_toArray, List.getElem_cons_succ, List.getElem_cons_zero, List.setIfInBounds_toArray, List.set_cons_zero, List.set_cons_succ])
    refine wpAnyH_take (i := 2) (oi := _) (v := ?_) rfl (by kernel_rfl) (by kernel_rfl) (by kernel_rfl) (fun _ _ _ h => h) (Or.inl ⟨by rfl, ?_⟩) (by assumption) ?_
    rotate_left
    · intro W hSw
      (try dsimp only at hSw)
      go_simp
      rfl
    (try simp only [Act.put, List.getElem_toArray, List.getElem_cons_succ, List.getElem_cons_zero, List.setIfInBounds_toArray, List.set_cons_zero, List.set_cons_succ])
    refine wpAnyH_take (i := 3) (oi := _) (v := ?_) rfl (by kernel_rfl) (by kernel_rfl) (by kernel_rfl) (fun _ _ _ h => h) (Or.inl ⟨by rfl, ?_⟩) (by assumption) ?_
    rotate_left
    · intro W hSw
      (try dsimp only at hSw)
      go_simp
      rfl
    (try simp only [Act.put, List.getElem_toArray, List.getElem_cons_succ, List.getElem_cons_zero, List.setIfInBounds_toArray, List.set_cons_zero, List.set_cons_succ])
    refine wpAnyH_take (i := 5) (oi := _) (v := ?_) rfl (by kernel_rfl) (by kernel_rfl) (by kernel_rfl) (fun _ _ _ h => h) (Or.inl ⟨by rfl, ?_⟩) (by assumption) ?_
    rotate_left
    · intro W hSw
      (try dsimp only at hSw)
      go_simp
      rfl
    (try simp only [Act.put, List.getElem_toArray, List.getElem_cons_succ, List.getElem_cons_zero, List.setIfInBounds_toArray, List.set_cons_zero, List.set_cons_succ])
    refine wpAnyH_take (i := 6) (oi := _) (v := ?_) rfl (by kernel_rfl) (by kernel_rfl) (by kernel_rfl) (fun _ _ _ h => h) (Or.inl ⟨by rfl, ?_⟩) (by assumption) ?_
    rotate_left
    · intro W hSw
      have hcv := run_tostr W (some ⟨w.heap.size, 0, none⟩) p (m + 1) hSw
      rw [HPL.out] at hcv
      go_simp
      rfl
    (try simp only [Act.put, List.getElem_toArray, List.getElem_cons_succ, List.getElem_cons_zero, List.setIfInBounds_toArray, List.set_cons_zero, List.set_cons_succ])
    refine wpAnyH_ready (rs := [4, 7]) (by kernel_rfl) (by simp) ?_
    refine AllReadyH.cons (o := _) rfl (fun K hK => ?_) ?_
    · go_simp
      refine hK.out _ _ S4d.out (fun _ => ?_)
      clear hK K
      (try simp only [Act.put, List.getElem_toArray, List.getElem_cons_succ, List.getElem_cons_zero, List.setIfInBounds_toArray, List.set_cons_zero, List.set_cons_succ])
      refine wpAnyH_ready (rs := [7]) (by kernel_rfl) (by simp) ?_
      refine AllReadyH.cons (o := _) rfl (fun K hK => ?_) AllReadyH.nil
      go_simp
      obtain ⟨w7, hw7⟩ : ∃ w7, (w4.alloc (.cells #[.string (tstr p)] 9)).drew = w7 := ⟨_, rfl⟩
      have hb7 : Below w4.heap.size w4 w7 := by rw [← hw7]; exact Below.drew ((Below.refl _ _).alloc (Nat.le_refl _) _)
      have HSR7 : Hid (Src w7 (some ⟨w4.heap.size, 0, none⟩) [.string (tstr p)]) := by rw [Hid, ← hw7]; exact Src.of_blk (w := (w4.alloc (.cells #[.string (tstr p)] 9)).drew) (Blk.new w4 9 [.string (tstr p)])
      have HX7 := Lib.hid (HX4.out.below hb7)
      have HN7 := Lib.hid (HN4.out.below hb7 HN4.out.lt)
      have HB7 : Hid (Below B w w7) := HB4.out.trans (hb7.mono (Nat.le_trans hB HB4.out.size))
      have S7 : Hid (BytesAt w7 (some ⟨w.heap.size, 0, none⟩) p) := (Src.of_blk HN7.out).bytes
      have hs7 := HB7.out.size
      rw [hw7]
      clear hb7 hw7
      refine hK.out _ _ S7.out (fun hHeld7 => ?_)
      clear hK K
      (try simp only [Act.put, List.getElem_toArray, List.getElem_cons_succ, List.getElem_cons_zero, List.setIfInBounds_toArray, List.set_cons_zero, List.set_cons_succ])
      refine wpAnyH_ready (rs := [8]) (by kernel_rfl) (by simp) ?_
      refine AllReadyH.cons (o := _) rfl (fun K hK => ?_) AllReadyH.nil
      refine step_append_src _ rfl (.tmp 84) (.tmp 87) 45 rfl B 9 i0 (.string ⟨#[]⟩) 1 16 Tryd.underlying45 HI.out.1 HI.out.2.1 HI.out.2.2.1 HI.out.2.2.2 rfl (by decide) (.slice Al ss.length capl) ss.length (sv ss) rfl HX7.out.all (some ⟨w4.heap.size, 0, none⟩) 1 1 [.string (tstr p)] rfl rfl HSR7.out (by intro u hu; simp at hu; subst hu; rfl) h63.out hroom.out (Nat.le_trans hB hs7) ?_
      intro v8 w8 hown8 hgrow8 hat8
      have hown9 : w8.ownsRow B 9 1 v8 (ss ++ [tstr p]).length (sv (ss ++ [tstr p])) := by
        have : sv (ss ++ [tstr p]) = sv ss ++ [.string (tstr p)] := by simp [sv]
        rw [this, List.length_append]
        exact hown8
      have hGA := HX7.out.grewAll hgrow8 hown9
      have hk8 : Kinds (fun x => (Value.slice Al ss.length capl).ownBlock = some x) w7 [9] := fun x hx => ⟨_, by simp, own_typ HX7.out.all hx⟩
      have hN8 := hGA.2.2.blk_ hk8 HN7.out (by decide)
      have HB8 : Hid (Below B w w8) := HB7.out.trans (only_below hGA.2.2 (fun k hk => (HX7.out.all.lt k hk).1) (Nat.le_trans hB hs7))
      have S8 : Hid (BytesAt w8 (some ⟨w.heap.size, 0, none⟩) p) := (Src.of_blk hN8).bytes
      have S9 : Hid (BytesAt (w8.setCell ⟨gx, 3, none⟩ v8) (some ⟨w.heap.size, 0, none⟩) p) := by
        have hne : w.heap.size ≠ gx := fun e => by
          have := hGA.2.1.typ.uniq (e ▸ hN8.typ)
          revert this
          decide
        exact (Src.of_blk (((Only.refl (· = gx) w8).setCell (p := ⟨gx, 3, none⟩) (.inl rfl) v8).blk hN8 hne)).bytes
      obtain ⟨A8, cap8, rfl, _, _, _⟩ := own_src hown8
      obtain ⟨u0, u1, u2, u3, u4, u5, u6, g0, g1, g2, g3, g4, g5, g6⟩ := facts7 hGA.2.1
      have HGA := Lib.hid hGA
      clear hown8 hgrow8 hat8 hown9 hGA hk8 hN8
      refine hK.out _ _ S8.out (fun hHeld8 => ?_)
      clear hK K
      (try simp only [Act.put, List.getElem_toArray, List.getElem_cons_succ, List.getElem_cons_zero, List.setIfInBounds_toArray, List.set_cons_zero, List.set_cons_succ])
      refine wpAnyH_take (i := 9) (oi := _) (v := ?_) rfl (by kernel_rfl) (by kernel_rfl) (by kernel_rfl) (fun _ _ _ h => h) (Or.inl ⟨by rfl, ?_⟩) (by assumption) ?_
      rotate_left
      · intro W hSw
        (try dsimp only at hSw)
        go_simp
        rfl
      (try simp only [Act.put, List.getElem_toArray, List.getElem_cons_succ, List.getElem_cons_zero, List.setIfInBounds_toArray, List.set_cons_zero, List.set_cons_succ])
      refine wpAnyH_take (i := 10) (oi := _) (v := ?_) rfl (by kernel_rfl) (by kernel_rfl) (by kernel_rfl) (fun _ _ _ h => h) (Or.inl ⟨by rfl, ?_⟩) (by assumption) ?_
      rotate_left
      · intro W hSw
        (try dsimp only at hSw)
        go_simp
        rfl
      (try simp only [Act.put, List.getElem_toArray, List.getElem_cons_succ, List.getElem_cons_zero, List.setIfInBounds_toArray, List.set_cons_zero, List.set_cons_succ])
      refine wpAnyH_ready (rs := [11]) (by kernel_rfl) (by simp) ?_
      refine AllReadyH.cons (o := _) rfl (fun K hK => ?_) AllReadyH.nil
      go_simp
      refine hK.out _ _ S9.out (fun _ => ?_)
      refine wpAnyH_done (by kernel_rfl) ?_ _
      clear hK K hHeld8
      go_wp2_with fail
      go_ret
      refine ⟨rfl, ⟨g, gl, v, va', _, vs', d', rd, l', ss ++ [tstr p], safe, rs, true, HGA.out.1, ?_, by omega⟩, HB8.out.setCell (p := ⟨gx, 3, none⟩) HM.out.low.1 _⟩
      have hbl : bl (ss ++ [tstr p]) = bl ss ++ [p] := by simp [bl, tstr_list]
      rw [hbl]
      exact HOK.out
    · refine AllReadyH.cons (o := _) rfl (fun K hK => ?_) AllReadyH.nil
      go_simp
      obtain ⟨w7, hw7⟩ : ∃ w7, (w4.alloc (.cells #[.string (tstr p)] 9)).drew = w7 := ⟨_, rfl⟩
      have hb7 : Below w4.heap.size w4 w7 := by rw [← hw7]; exact Below.drew ((Below.refl _ _).alloc (Nat.le_refl _) _)
      have HSR7 : Hid (Src w7 (some ⟨w4.heap.size, 0, none⟩) [.string (tstr p)]) := by rw [Hid, ← hw7]; exact Src.of_blk (w := (w4.alloc (.cells #[.string (tstr p)] 9)).drew) (Blk.new w4 9 [.string (tstr p)])
      have HX7 := Lib.hid (HX4.out.below hb7)
      have HN7 := Lib.hid (HN4.out.below hb7 HN4.out.lt)
      have HB7 : Hid (Below B w w7) := HB4.out.trans (hb7.mono (Nat.le_trans hB HB4.out.size))
      have S7 : Hid (BytesAt w7 (some ⟨w.heap.size, 0, none⟩) p) := (Src.of_blk HN7.out).bytes
      have hs7 := HB7.out.size
      rw [hw7]
      clear hb7 hw7
      obtain ⟨t0, t1, t2, t3, t4, t5, t6, _, _, _, _, _, _, _⟩ := facts7 HX7.out.blk
      refine hK.out _ _ S7.out (fun hHeld7 => ?_)
      clear hK K
      (try simp only [Act.put, List.getElem_toArray, List.getElem_cons_succ, List.getElem_cons_zero, List.setIfInBounds_toArray, List.set_cons_zero, List.set_cons_succ])
      refine wpAnyH_ready (rs := [4]) (by kernel_rfl) (by simp) ?_
      refine AllReadyH.cons (o := _) rfl (fun K hK => ?_) AllReadyH.nil
      go_simp
      refine hK.out _ _ S7.out (fun _ => ?_)
      clear hK K t0 t1 t2 t3 t4 t5 t6
      (try simp only [Act.put, List.getElem_toArray, List.getElem_cons_succ, List.getElem_cons_zero, List.setIfInBounds_toArray, List.set_cons_zero, List.set_cons_succ])
      refine wpAnyH_ready (rs := [8]) (by kernel_rfl) (by simp) ?_
      refine AllReadyH.cons (o := _) rfl (fun K hK => ?_) AllReadyH.nil
      refine step_append_src _ rfl (.tmp 84) (.tmp 87) 45 rfl B 9 i0 (.string ⟨#[]⟩) 1 16 Tryd.underlying45 HI.out.1 HI.out.2.1 HI.out.2.2.1 HI.out.2.2.2 rfl (by decide) (.slice Al ss.length capl) ss.length (sv ss) rfl HX7.out.all (some ⟨w4.heap.size, 0, none⟩) 1 1 [.string (tstr p)] rfl rfl HSR7.out (by intro u hu; simp at hu; subst hu; rfl) h63.out hroom.out (Nat.le_trans hB hs7) ?_
      intro v8 w8 hown8 hgrow8 hat8
      have hown9 : w8.ownsRow B 9 1 v8 (ss ++ [tstr p]).length (sv (ss ++ [tstr p])) := by
        have : sv (ss ++ [tstr p]) = sv ss ++ [.string (tstr p)] := by simp [sv]
        rw [this, List.length_append]
        exact hown8
      have hGA := HX7.out.grewAll hgrow8 hown9
      have hk8 : Kinds (fun x => (Value.slice Al ss.length capl).ownBlock = some x) w7 [9] := fun x hx => ⟨_, by simp, own_typ HX7.out.all hx⟩
      have hN8 := hGA.2.2.blk_ hk8 HN7.out (by decide)
      have HB8 : Hid (Below B w w8) := HB7.out.trans (only_below hGA.2.2 (fun k hk => (HX7.out.all.lt k hk).1) (Nat.le_trans hB hs7))
      have S8 : Hid (BytesAt w8 (some ⟨w.heap.size, 0, none⟩) p) := (Src.of_blk hN8).bytes
      have S9 : Hid (BytesAt (w8.setCell ⟨gx, 3, none⟩ v8) (some ⟨w.heap.size, 0, none⟩) p) := by
        have hne : w.heap.size ≠ gx := fun e => by
          have := hGA.2.1.typ.uniq (e ▸ hN8.typ)
          revert this
          decide
        exact (Src.of_blk (((Only.refl (· = gx) w8).setCell (p := ⟨gx, 3, none⟩) (.inl rfl) v8).blk hN8 hne)).bytes
      obtain ⟨A8, cap8, rfl, _, _, _⟩ := own_src hown8
      obtain ⟨u0, u1, u2, u3, u4, u5, u6, g0, g1, g2, g3, g4, g5, g6⟩ := facts7 hGA.2.1
      have HGA := Lib.hid hGA
      clear hown8 hgrow8 hat8 hown9 hGA hk8 hN8
      refine hK.out _ _ S8.out (fun hHeld8 => ?_)
      clear hK K
      (try simp only [Act.put, List.getElem_toArray, List.getElem_cons_succ, List.getElem_cons_zero, List.setIfInBounds_toArray, List.set_cons_zero, List.set_cons_succ])
      refine wpAnyH_take (i := 9) (oi := _) (v := ?_) rfl (by kernel_rfl) (by kernel_rfl) (by kernel_rfl) (fun _ _ _ h => h) (Or.inl ⟨by rfl, ?_⟩) (by assumption) ?_
      rotate_left
      · intro W hSw
        (try dsimp only at hSw)
        go_simp
        rfl
      (try simp only [Act.put, List.getElem_toArray, List.getElem_cons_succ, List.getElem_cons_zero, List.setIfInBounds_toArray, List.set_cons_zero, List.set_cons_succ])
      refine wpAnyH_take (i := 10) (oi := _) (v := ?_) rfl (by kernel_rfl) (by kernel_rfl) (by kernel_rfl) (fun _ _ _ h => h) (Or.inl ⟨by rfl, ?_⟩) (by assumption) ?_
      rotate_left
      · intro W hSw
        (try dsimp only at hSw)
        go_simp
        rfl
      (try simp only [Act.put, List.getElem_toArray, List.getElem_cons_succ, List.getElem_cons_zero, List.setIfInBounds_toArray, List.set_cons_zero, List.set_cons_succ])
      refine wpAnyH_ready (rs := [11]) (by kernel_rfl) (by simp) ?_
      refine AllReadyH.cons (o := _) rfl (fun K hK => ?_) AllReadyH.nil
      go_simp
      refine hK.out _ _ S9.out (fun _ => ?_)
      refine wpAnyH_done (by kernel_rfl) ?_ _
      clear hK K hHeld8
      go_wp2_with fail
      go_ret
      refine ⟨rfl, ⟨g, gl, v, va', _, vs', d', rd, l', ss ++ [tstr p], safe, rs, true, HGA.out.1, ?_, by omega⟩, HB8.out.setCell (p := ⟨gx, 3, none⟩) HM.out.low.1 _⟩
      have hbl : bl (ss ++ [tstr p]) = bl ss ++ [p] := by simp [bl, tstr_list]
      rw [hbl]
      exact HOK.out
  · rw [hap] at hS
    have HS := Lib.hid hS
    have HOK := Lib.hid hok'
    have hss : ss.length ≤ 4097 := by
      rcases hcount with h | h
      · have := bl_length ss
        omega
      · cases h
    have h63 : Hid (ss.length + 1 ≤ maxLen) := by rw [Hid]; simp only [maxLen]; omega
    have hroom := Lib.hid (string_room (n := ss.length) (m := 1) (by omega))
    clear hS hap hok' hpl
    go_enter Tryd.func22, Tryd.ntmps22
    go_wp2_with fail
    refine HS.out.mono ?_
    rintro e w2 ⟨rfl, va', vs', hst, hsep, _, ho⟩
    have HX2 := Lib.hid (HM1.out.put hst hsep ho (Nat.le_trans hB HB1.out.size))
    have HN2 := Lib.hid (ho.blk_ HM1.out.log.kinds HN1.out (by decide))
    have HB2 : Hid (Below B w w2) := HB1.out.trans (only_below ho HM.out.low.2 (Nat.le_trans hB HB1.out.size))
    unfold errA
    obtain ⟨w2a, hw2a⟩ : ∃ w2a, w2.alloc (.cells #[.int .i64 0, .string ⟨#[]⟩, .bool true] 27) = w2a := ⟨_, rfl⟩
    have ha : Below w2.heap.size w2 w2a := by rw [← hw2a]; exact (Below.refl _ _).alloc (Nat.le_refl _) _
    have BE : Blk w2a w2.heap.size 27 [.int .i64 0, .string ⟨#[]⟩, .bool true] := by rw [← hw2a]; exact Blk.new w2 27 _
    obtain ⟨z0, z1, z2, _, _, _⟩ := facts3 BE
    have HXa := Lib.hid (HX2.out.below ha)
    have HBa : Hid (Below B w w2a) := HB2.out.trans (ha.mono (Nat.le_trans hB HB2.out.size))
    have HN2a := Lib.hid (HN2.out.below ha HN2.out.lt)
    clear hst hsep ho ha
    clear x0 x1 x2 x3 x4 x5 x6 y0 y1 y2 y3 y4 y5 y6
    obtain ⟨x0, x1, x2, x3, x4, x5, x6, y0, y1, y2, y3, y4, y5, y6⟩ := facts7 HXa.out.blk
    have HTF := Lib.hid (ktold_fine gx _ _ _ _ _ _ w2a HXa.out.blk)
    unfold errA at HTF
    go_wp2_with fail
    refine HTF.out.mono ?_
    rintro e w4 ⟨rfl, hb4⟩
    have HX4 := Lib.hid (HXa.out.below hb4)
    have HB4 : Hid (Below B w w4) := HBa.out.trans (hb4.mono (Nat.le_trans hB HBa.out.size))
    have HN4 := Lib.hid (HN2a.out.below hb4 HN2a.out.lt)
    clear hb4 z0 z1 z2 x0 x1 x2 x3 x4 x5 x6 y0 y1 y2 y3 y4 y5 y6
    obtain ⟨x0, x1, x2, x3, x4, x5, x6, y0, y1, y2, y3, y4, y5, y6⟩ := facts7 HX4.out.blk
    go_wp2_with fail
    have S4d : Hid (BytesAt w4.drew (some ⟨w.heap.size, 0, none⟩) p) := (Src.of_blk HN4.out.drew).bytes
    refine wp_region_held_drew (S := (fun W : World => BytesAt W (some ⟨w.heap.size, 0, none⟩) p)) (by kernel_rfl) S4d.out (fun hHeld => ?_)
    refine wpAnyH_take (i := 0) (oi := _) (v := ?_) rfl (by kernel_rfl) (by kernel_rfl) (by kernel_rfl) (fun _ _ _ h => h) (Or.inl ⟨by rfl, ?_⟩) (by assumption) ?_
    rotate_left
    · intro W hSw
      (try dsimp only at hSw)
      go_simp
      rfl
    (try simp only [Act.put, List.getElem_toArray, List.getElem_cons_succ, List.getElem_cons_zero, List.setIfInBounds_toArray, List.set_cons_zero, List.set_cons_succ])
    refine wpAnyH_take (i := 1) (oi := _) (v := ?_) rfl (by kernel_rfl) (by kernel_rfl) (by kernel_rfl) (fun _ _ _ h => h) (Or.inl ⟨by rfl, ?_⟩) (by assumption) ?_
    rotate_left
    · intro W hSw
      (try dsimp only at hSw)
      go_simp
      rfl
    (try simp only [Act.put, List.getElem_toArray, List.getElem_cons_succ, List.getElem_cons_zero, List.setIfInBounds_toArray, List.set_cons_zero, List.set_cons_succ])
    refine wpAnyH_take (i := 2) (oi := _) (v := ?_) rfl (by kernel_rfl) (by kernel_rfl) (by kernel_rfl) (fun _ _ _ h => h) (Or.inl ⟨by rfl, ?_⟩) (by assumption) ?_
    rotate_left
    · intro W hSw
      (try dsimp only at hSw)
      go_simp
      rfl
    (try simp only [Act.put, List.getElem_toArray, List.getElem_cons_succ, List.getElem_cons_zero, List.setIfInBounds_toArray, List.set_cons_zero, List.set_cons_succ])
    refine wpAnyH_take (i := 3) (oi := _) (v := ?_) rfl (by kernel_rfl) (by kernel_rfl) (by kernel_rfl) (fun _ _ _ h => h) (Or.inl ⟨by rfl, ?_⟩) (by assumption) ?_
    rotate_left
    · intro W hSw
      (try dsimp only at hSw)
      go_simp
      rfl
    (try simp only [Act.put, List.getElem_toArray, List.getElem_cons_succ, List.getElem_cons_zero, List.setIfInBounds_toArray, List.set_cons_zero, List.set_cons_succ])
    refine wpAnyH_take (i := 5) (oi := _) (v := ?_) rfl (by kernel_rfl) (by kernel_rfl) (by kernel_rfl) (fun _ _ _ h => h) (Or.inl ⟨by rfl, ?_⟩) (by assumption) ?_
    rotate_left
    · intro W hSw
      (try dsimp only at hSw)
      go_simp
      rfl
    (try simp only [Act.put, List.getElem_toArray, List.getElem_cons_succ, List.getElem_cons_zero, List.setIfInBounds_toArray, List.set_cons_zero, List.set_cons_succ])
    refine wpAnyH_take (i := 6) (oi := _) (v := ?_) rfl (by kernel_rfl) (by kernel_rfl) (by kernel_rfl) (fun _ _ _ h => h) (Or.inl ⟨by rfl, ?_⟩) (by assumption) ?_
    rotate_left
    · intro W hSw
      have hcv := run_tostr W (some ⟨w.heap.size, 0, none⟩) p (m + 1) hSw
      rw [HPL.out] at hcv
      go_simp
      rfl
    (try simp only [Act.put, List.getElem_toArray, List.getElem_cons_succ, List.getElem_cons_zero, List.setIfInBounds_toArray, List.set_cons_zero, List.set_cons_succ])
    refine wpAnyH_ready (rs := [4, 7]) (by kernel_rfl) (by simp) ?_
    refine AllReadyH.cons (o := _) rfl (fun K hK => ?_) ?_
    · go_simp
      refine hK.out _ _ S4d.out (fun _ => ?_)
      clear hK K
      (try simp only [Act.put, List.getElem_toArray, List.getElem_cons_succ, List.getElem_cons_zero, List.setIfInBounds_toArray, List.set_cons_zero, List.set_cons_succ])
      refine wpAnyH_ready (rs := [7]) (by kernel_rfl) (by simp) ?_
      refine AllReadyH.cons (o := _) rfl (fun K hK => ?_) AllReadyH.nil
      go_simp
      obtain ⟨w7, hw7⟩ : ∃ w7, (w4.alloc (.cells #[.string (tstr p)] 9)).drew = w7 := ⟨_, rfl⟩
      have hb7 : Below w4.heap.size w4 w7 := by rw [← hw7]; exact Below.drew ((Below.refl _ _).alloc (Nat.le_refl _) _)
      have HSR7 : Hid (Src w7 (some ⟨w4.heap.size, 0, none⟩) [.string (tstr p)]) := by rw [Hid, ← hw7]; exact Src.of_blk (w := (w4.alloc (.cells #[.string (tstr p)] 9)).drew) (Blk.new w4 9 [.string (tstr p)])
      have HX7 := Lib.hid (HX4.out.below hb7)
      have HN7 := Lib.hid (HN4.out.below hb7 HN4.out.lt)
      have HB7 : Hid (Below B w w7) := HB4.out.trans (hb7.mono (Nat.le_trans hB HB4.out.size))
      have S7 : Hid (BytesAt w7 (some ⟨w.heap.size, 0, none⟩) p) := (Src.of_blk HN7.out).bytes
      have hs7 := HB7.out.size
      rw [hw7]
      clear hb7 hw7
      refine hK.out _ _ S7.out (fun hHeld7 => ?_)
      clear hK K
      (try simp only [Act.put, List.getElem_toArray, List.getElem_cons_succ, List.getElem_cons_zero, List.setIfInBounds_toArray, List.set_cons_zero, List.set_cons_succ])
      refine wpAnyH_ready (rs := [8]) (by kernel_rfl) (by simp) ?_
      refine AllReadyH.cons (o := _) rfl (fun K hK => ?_) AllReadyH.nil
      refine step_append_src _ rfl (.tmp 84) (.tmp 87) 45 rfl B 9 i0 (.string ⟨#[]⟩) 1 16 Tryd.underlying45 HI.out.1 HI.out.2.1 HI.out.2.2.1 HI.out.2.2.2 rfl (by decide) (.slice Al ss.length capl) ss.length (sv ss) rfl HX7.out.all (some ⟨w4.heap.size, 0, none⟩) 1 1 [.string (tstr p)] rfl rfl HSR7.out (by intro u hu; simp at hu; subst hu; rfl) h63.out hroom.out (Nat.le_trans hB hs7) ?_
      intro v8 w8 hown8 hgrow8 hat8
      have hown9 : w8.ownsRow B 9 1 v8 (ss ++ [tstr p]).length (sv (ss ++ [tstr p])) := by
        have : sv (ss ++ [tstr p]) = sv ss ++ [.string (tstr p)] := by simp [sv]
        rw [this, List.length_append]
        exact hown8
      have hGA := HX7.out.grewAll hgrow8 hown9
      have hk8 : Kinds (fun x => (Value.slice Al ss.length capl).ownBlock = some x) w7 [9] := fun x hx => ⟨_, by simp, own_typ HX7.out.all hx⟩
      have hN8 := hGA.2.2.blk_ hk8 HN7.out (by decide)
      have HB8 : Hid (Below B w w8) := HB7.out.trans (only_below hGA.2.2 (fun k hk => (HX7.out.all.lt k hk).1) (Nat.le_trans hB hs7))
      have S8 : Hid (BytesAt w8 (some ⟨w.heap.size, 0, none⟩) p) := (Src.of_blk hN8).bytes
      have S9 : Hid (BytesAt (w8.setCell ⟨gx, 3, none⟩ v8) (some ⟨w.heap.size, 0, none⟩) p) := by
        have hne : w.heap.size ≠ gx := fun e => by
          have := hGA.2.1.typ.uniq (e ▸ hN8.typ)
          revert this
          decide
        exact (Src.of_blk (((Only.refl (· = gx) w8).setCell (p := ⟨gx, 3, none⟩) (.inl rfl) v8).blk hN8 hne)).bytes
      obtain ⟨A8, cap8, rfl, _, _, _⟩ := own_src hown8
      obtain ⟨u0, u1, u2, u3, u4, u5, u6, g0, g1, g2, g3, g4, g5, g6⟩ := facts7 hGA.2.1
      have HGA := Lib.hid hGA
      clear hown8 hgrow8 hat8 hown9 hGA hk8 hN8
      refine hK.out _ _ S8.out (fun hHeld8 => ?_)
      clear hK K
      (try simp only [Act.put, List.getElem_toArray, List.getElem_cons_succ, List.getElem_cons_zero, List.setIfInBounds_toArray, List.set_cons_zero, List.set_cons_succ])
      refine wpAnyH_take (i := 9) (oi := _) (v := ?_) rfl (by kernel_rfl) (by kernel_rfl) (by kernel_rfl) (fun _ _ _ h => h) (Or.inl ⟨by rfl, ?_⟩) (by assumption) ?_
      rotate_left
      · intro W hSw
        (try dsimp only at hSw)
        go_simp
        rfl
      (try simp only [Act.put, List.getElem_toArray, List.getElem_cons_succ, List.getElem_cons_zero, List.setIfInBounds_toArray, List.set_cons_zero, List.set_cons_succ])
      refine wpAnyH_take (i := 10) (oi := _) (v := ?_) rfl (by kernel_rfl) (by kernel_rfl) (by kernel_rfl) (fun _ _ _ h => h) (Or.inl ⟨by rfl, ?_⟩) (by assumption) ?_
      rotate_left
      · intro W hSw
        (try dsimp only at hSw)
        go_simp
        rfl
      (try simp only [Act.put, List.getElem_toArray, List.getElem_cons_succ, List.getElem_cons_zero, List.setIfInBounds_toArray, List.set_cons_zero, List.set_cons_succ])
      refine wpAnyH_ready (rs := [11]) (by kernel_rfl) (by simp) ?_
      refine AllReadyH.cons (o := _) rfl (fun K hK => ?_) AllReadyH.nil
      go_simp
      refine hK.out _ _ S9.out (fun _ => ?_)
      refine wpAnyH_done (by kernel_rfl) ?_ _
      clear hK K hHeld8
      go_wp2_with fail
      go_ret
      refine ⟨rfl, ⟨g, gl, v, va', _, vs', d', rd, l', ss ++ [tstr p], safe, rs, false, HGA.out.1, ?_, by omega⟩, HB8.out.setCell (p := ⟨gx, 3, none⟩) HM.out.low.1 _⟩
      have hbl : bl (ss ++ [tstr p]) = bl ss ++ [p] := by simp [bl, tstr_list]
      rw [hbl]
      exact HOK.out
    · refine AllReadyH.cons (o := _) rfl (fun K hK => ?_) AllReadyH.nil
      go_simp
      obtain ⟨w7, hw7⟩ : ∃ w7, (w4.alloc (.cells #[.string (tstr p)] 9)).drew = w7 := ⟨_, rfl⟩
      have hb7 : Below w4.heap.size w4 w7 := by rw [← hw7]; exact Below.drew ((Below.refl _ _).alloc (Nat.le_refl _) _)
      have HSR7 : Hid (Src w7 (some ⟨w4.heap.size, 0, none⟩) [.string (tstr p)]) := by rw [Hid, ← hw7]; exact Src.of_blk (w := (w4.alloc (.cells #[.string (tstr p)] 9)).drew) (Blk.new w4 9 [.string (tstr p)])
      have HX7 := Lib.hid (HX4.out.below hb7)
      have HN7 := Lib.hid (HN4.out.below hb7 HN4.out.lt)
      have HB7 : Hid (Below B w w7) := HB4.out.trans (hb7.mono (Nat.le_trans hB HB4.out.size))
      have S7 : Hid (BytesAt w7 (some ⟨w.heap.size, 0, none⟩) p) := (Src.of_blk HN7.out).bytes
      have hs7 := HB7.out.size
      rw [hw7]
      clear hb7 hw7
      obtain ⟨t0, t1, t2, t3, t4, t5, t6, _, _, _, _, _, _, _⟩ := facts7 HX7.out.blk
      refine hK.out _ _ S7.out (fun hHeld7 => ?_)
      clear hK K
      (try simp only [Act.put, List.getElem_toArray, List.getElem_cons_succ, List.getElem_cons_zero, List.setIfInBounds_toArray, List.set_cons_zero, List.set_cons_succ])
      refine wpAnyH_ready (rs := [4]) (by kernel_rfl) (by simp) ?_
      refine AllReadyH.cons (o := _) rfl (fun K hK => ?_) AllReadyH.nil
      go_simp
      refine hK.out _ _ S7.out (fun _ => ?_)
      clear hK K t0 t1 t2 t3 t4 t5 t6
      (try simp only [Act.put, List.getElem_toArray, List.getElem_cons_succ, List.getElem_cons_zero, List.setIfInBounds_toArray, List.set_cons_zero, List.set_cons_succ])
      refine wpAnyH_ready (rs := [8]) (by kernel_rfl) (by simp) ?_
      refine AllReadyH.cons (o := _) rfl (fun K hK => ?_) AllReadyH.nil
      refine step_append_src _ rfl (.tmp 84) (.tmp 87) 45 rfl B 9 i0 (.string ⟨#[]⟩) 1 16 Tryd.underlying45 HI.out.1 HI.out.2.1 HI.out.2.2.1 HI.out.2.2.2 rfl (by decide) (.slice Al ss.length capl) ss.length (sv ss) rfl HX7.out.all (some ⟨w4.heap.size, 0, none⟩) 1 1 [.string (tstr p)] rfl rfl HSR7.out (by intro u hu; simp at hu; subst hu; rfl) h63.out hroom.out (Nat.le_trans hB hs7) ?_
      intro v8 w8 hown8 hgrow8 hat8
      have hown9 : w8.ownsRow B 9 1 v8 (ss ++ [tstr p]).length (sv (ss ++ [tstr p])) := by
        have : sv (ss ++ [tstr p]) = sv ss ++ [.string (tstr p)] := by simp [sv]
        rw [this, List.length_append]
        exact hown8
      have hGA := HX7.out.grewAll hgrow8 hown9
      have hk8 : Kinds (fun x => (Value.slice Al ss.length capl).ownBlock = some x) w7 [9] := fun x hx => ⟨_, by simp, own_typ HX7.out.all hx⟩
      have hN8 := hGA.2.2.blk_ hk8 HN7.out (by decide)
      have HB8 : Hid (Below B w w8) := HB7.out.trans (only_below hGA.2.2 (fun k hk => (HX7.out.all.lt k hk).1) (Nat.le_trans hB hs7))
      have S8 : Hid (BytesAt w8 (some ⟨w.heap.size, 0, none⟩) p) := (Src.of_blk hN8).bytes
      have S9 : Hid (BytesAt (w8.setCell ⟨gx, 3, none⟩ v8) (some ⟨w.heap.size, 0, none⟩) p) := by
        have hne : w.heap.size ≠ gx := fun e => by
          have := hGA.2.1.typ.uniq (e ▸ hN8.typ)
          revert this
          decide
        exact (Src.of_blk (((Only.refl (· = gx) w8).setCell (p := ⟨gx, 3, none⟩) (.inl rfl) v8).blk hN8 hne)).bytes
      obtain ⟨A8, cap8, rfl, _, _, _⟩ := own_src hown8
      obtain ⟨u0, u1, u2, u3, u4, u5, u6, g0, g1, g2, g3, g4, g5, g6⟩ := facts7 hGA.2.1
      have HGA := Lib.hid hGA
      clear hown8 hgrow8 hat8 hown9 hGA hk8 hN8
      refine hK.out _ _ S8.out (fun hHeld8 => ?_)
      clear hK K
      (try simp only [Act.put, List.getElem_toArray, List.getElem_cons_succ, List.getElem_cons_zero, List.setIfInBounds_toArray, List.set_cons_zero, List.set_cons_succ])
      refine wpAnyH_take (i := 9) (oi := _) (v := ?_) rfl (by kernel_rfl) (by kernel_rfl) (by kernel_rfl) (fun _ _ _ h => h) (Or.inl ⟨by rfl, ?_⟩) (by assumption) ?_
      rotate_left
      · intro W hSw
        (try dsimp only at hSw)
        go_simp
        rfl
      (try simp only [Act.put, List.getElem_toArray, List.getElem_cons_succ, List.getElem_cons_zero, List.setIfInBounds_toArray, List.set_cons_zero, List.set_cons_succ])
      refine wpAnyH_take (i := 10) (oi := _) (v := ?_) rfl (by kernel_rfl) (by kernel_rfl) (by kernel_rfl) (fun _ _ _ h => h) (Or.inl ⟨by rfl, ?_⟩) (by assumption) ?_
      rotate_left
      · intro W hSw
        (try dsimp only at hSw)
        go_simp
        rfl
      (try simp only [Act.put, List.getElem_toArray, List.getElem_cons_succ, List.getElem_cons_zero, List.setIfInBounds_toArray, List.set_cons_zero, List.set_cons_succ])
      refine wpAnyH_ready (rs := [11]) (by kernel_rfl) (by simp) ?_
      refine AllReadyH.cons (o := _) rfl (fun K hK => ?_) AllReadyH.nil
      go_simp
      refine hK.out _ _ S9.out (fun _ => ?_)
      refine wpAnyH_done (by kernel_rfl) ?_ _
      clear hK K hHeld8
      go_wp2_with fail
      go_ret
      refine ⟨rfl, ⟨g, gl, v, va', _, vs', d', rd, l', ss ++ [tstr p], safe, rs, false, HGA.out.1, ?_, by omega⟩, HB8.out.setCell (p := ⟨gx, 3, none⟩) HM.out.low.1 _⟩
      have hbl : bl (ss ++ [tstr p]) = bl ss ++ [p] := by simp [bl, tstr_list]
      rw [hbl]
      exact HOK.out
end Go.Proofs.YtljmklohgpaopaaDoor
