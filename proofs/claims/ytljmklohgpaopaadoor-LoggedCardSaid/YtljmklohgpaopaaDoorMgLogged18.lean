/- The walk of the harness's opens. -/
import Derived.Test.YtljmklohgpaopaaDoorMgLogged17
import Derived.Deep.CutRange
set_option linter.unusedVariables false
set_option linter.unusedSimpArgs false

namespace Go.Proofs.YtljmklohgpaopaaDoor
open Go.RowKit

theorem GE.below' {B : Nat} {w w' : World} (h : GE w) (hb : Below B w w') (hl : 0 < B) : GE w' := (hb.cell (p := ⟨0, 0, none⟩) hl).trans h

theorem own_take {w : World} {B n m cap : Nat} {e : TypeId} {A : Option Addr} {xs : List Value} (h : w.ownsRow B e 1 (.slice A n cap) n xs) (hm : m ≤ n) : w.ownsRow B e 1 (.slice A m cap) m (xs.take m) := by
  obtain ⟨hl, h⟩ := h
  refine ⟨by rw [List.length_take]; omega, ?_⟩
  rcases h with ⟨hv, hn⟩ | ⟨g, cap', cur, hv, hb, hh, hn, hc, hsz, ht⟩
  · injection hv with h1 h2 h3
    subst h1 h3
    obtain rfl : m = 0 := by omega
    exact .inl ⟨rfl, rfl⟩
  · injection hv with h1 h2 h3
    subst h1 h3
    refine .inr ⟨g, cap, cur, rfl, hb, hh, by omega, hc, hsz, ?_⟩
    rw [← ht, List.take_take]
    congr 1
    omega
theorem OutAt.below {w w' : World} {B : Nat} {vo : Value} {vs : List Value} {ls : List (List UInt8)} (h : OutAt w B vo vs ls) (hb : Below w.heap.size w w') : OutAt w' B vo vs ls :=
  ⟨own_below h.own hb, fun k v l h1 h2 => own_below (h.each k v l h1 h2) hb, h.apart⟩
theorem OutAt.onlyX {w w' : World} {B gx : Nat} {vo : Value} {vs : List Value} {ls : List (List UInt8)} (h : OutAt w B vo vs ls) (ho : Only (· = gx) w w') (ht : Typ w gx 63) : OutAt w' B vo vs ls := by
  have hk : Kinds (· = gx) w [63] := fun x hx => by
    rw [hx]
    exact ⟨_, by simp, ht⟩
  exact ⟨ho.own_ hk h.own (by decide), fun k v l h1 h2 => ho.own_ hk (h.each k v l h1 h2) (by decide), h.apart⟩

set_option maxHeartbeats 40000000 in
set_option maxRecDepth 100000 in
theorem opens_any (B gx data k : Nat) (A : Option Addr) (cap die : Nat) (R : List Int) (w : World) (h : KLog B w gx data k) (hR : RawAt w A cap R) (hdie : die ≤ 31) (hda : 2 ≤ data) (hG : GE w) (hGB : 0 < B) (hB : B ≤ w.heap.size) (hk : k ≤ 5000) :
    Calls Tryd.prog 23 #[.pointer (some ⟨gx, 0, none⟩), .slice A R.length cap, .int .i64 (die : Nat)] w (ActPost B gx data k w) := by
  obtain ⟨g, gl, v, va, vall, vs, d, rd, l, ss, safe, rs, bad, hm, hok, hep⟩ := h
  have hgf : ¬ lFa gl g v va 0 := fun e => by have := hm.low.2 _ e; omega
  have hfit : l.first + 2 + l.data ≤ d.secs.length ∧ 1 + (data + 2) ≤ d.secs.length := by
    obtain ⟨_, _, hh, _⟩ := hok.held
    have := hh.room
    have := hok.first
    have := hok.dat
    omega
  have hsm := hm.log.cells.small
  have hcnt := Pl.flat_count l.all (fun p hp => (hok.small p hp).1)
  have hnx := hok.next
  obtain ⟨ee, al, hdok, hee, hal⟩ := hok.crashes R
  have hp8 := pow8
  have HCR := Lib.hid (crash_any g v d rd A cap R w hm.log.disk hR.raw (by have := hR.len; omega) hR.src (hR.far hm.log.disk))
  have HF := Lib.hid hgf
  have HFIT := Lib.hid hfit.1
  have HFIT2 : Hid (l.first + 2 ≤ d.secs.length) := by rw [Hid]; omega
  have HFIT3 := Lib.hid hfit.2
  have HROW : Hid (l.all.length ≤ 5000) := by rw [Hid]; omega
  have HEP : Hid (l.epoch + 1 < 18446744073709551616) := by rw [Hid]; omega
  have hdm : data + 2 ≤ 4096 := by have := hok.first; have := hok.dat; omega
  have hlb := hok.lbad
  have HM := Lib.hid hm
  have HRW := Lib.hid hR
  have HG0 := Lib.hid hG
  have HK := Lib.hid hok
  have HDO := Lib.hid hdok
  have HAL := Lib.hid hal
  have HEE : Hid (ee ≤ k + 2) := by rw [Hid]; omega
  obtain ⟨x0, x1, x2, x3, x4, x5, x6, y0, y1, y2, y3, y4, y5, y6⟩ := facts7 hm.blk
  clear hm hR hG hok hgf hdok hal hfit hcnt hnx hp8 hee hsm hep
  go_enter Tryd.func23, Tryd.ntmps23
  go_wp2_with fail
  refine HCR.out.mono ?_
  rintro e w1 ⟨rfl, hd1, ho1⟩
  have HX1 := Lib.hid (HM.out.put (HM.out.log.disked hd1 ho1) (Sep.refl _ _) (ho1.mono (fun _ _ h => .inl (.inl h))) hB)
  have HR1 := Lib.hid (HRW.out.only ho1 HM.out.log.disk.kinds (by decide))
  have HB1 : Hid (Below B w w1) := only_below ho1 (fun k hk => HM.out.low.2 k (.inl (.inl hk))) hB
  clear hd1 ho1 x0 x1 x2 x3 x4 x5 x6 y0 y1 y2 y3 y4 y5 y6
  obtain ⟨x0, x1, x2, x3, x4, x5, x6, y0, y1, y2, y3, y4, y5, y6⟩ := facts7 HX1.out.blk
  go_upto_if 31 with fail
  go_cut [] from 7 (fun wx => ∃ va' vs', Hid (KMem B wx gx g gl (data + 2) v va' vall vs' (d.crash R) rd l ss safe rs bad) ∧ Hid (RawAt wx A cap R) ∧ Hid (Below B w wx))
  case first =>
    cases bad with
    | false =>
      go_wp2_with fail
      go_meet
      case rel => exact ⟨va, vs, HX1.out, HR1.out, HB1.out⟩
    | true =>
      have HLB := Lib.hid hlb
      have HGa := Lib.hid (HG0.out.below' HB1.out hGB)
      obtain ⟨w1a, hw1a⟩ : ∃ w1a, w1.alloc (.cells #[.int .u8 109, .int .u8 111, .int .u8 114, .int .u8 101] 5 (4, 5)) = w1a := ⟨_, rfl⟩
      have hb1a : Below w1.heap.size w1 w1a := by rw [← hw1a]; exact (Below.refl _ _).alloc (Nat.le_refl _) _
      have BMO : BytesAt w1a (some ⟨w1.heap.size, 0, none⟩) [109, 111, 114, 101] := by
        refine Src.bytes (.inr ⟨_, _, rfl, fun j u hu => ?_⟩)
        rw [← hw1a, Nat.zero_add, cell_of_row _ _ _ _ _ _ (heap_alloc_new w1 _)]
        simpa [bv] using hu
      have hmo : w1.heap.size < w1a.heap.size := by rw [← hw1a]; simp
      have hmk := run_mark (P := Tryd.prog) w1 23 5 #[.int .u8 109, .int .u8 111, .int .u8 114, .int .u8 101] 4 Tryd.underlying23 Tryd.underlying5 rfl
      simp only [Nat.reduceAdd] at hmk
      clear x0 x1 x2 x3 x4 x5 x6 y0 y1 y2 y3 y4 y5 y6
      obtain ⟨x0, x1, x2, x3, x4, x5, x6, y0, y1, y2, y3, y4, y5, y6⟩ := facts7 (HX1.out.below hb1a).blk
      obtain ⟨u0, u1, u2, u3, u4, u5, u6, _, _, _, _, _, _, _⟩ := facts7 HX1.out.blk
      obtain ⟨kk, hkk, hap⟩ := bad_append l (d.crash R) [109, 111, 114, 101] hlb ⟨by decide, by decide⟩
      rcases hkk with rfl | rfl
      · have hS1 := pAppend_any gl g v va vs (d.crash R) rd l [109, 111, 114, 101] (some ⟨w1.heap.size, 0, none⟩) 4 w1a (HX1.out.below hb1a).log (HGa.out.below hb1a) HF.out BMO (fun q hq => by
          injection hq with hq
          rw [← hq]
          exact ⟨hmo, fun e => Nat.lt_irrefl _ (HX1.out.log.lt _ e)⟩) (by decide) (by decide) (by rw [crash_length]; exact HFIT.out) HROW.out
        rw [hap] at hS1
        have HS1 := Lib.hid hS1
        have HXa := Lib.hid (HX1.out.below hb1a)
        have HRa := Lib.hid (HR1.out.below hb1a)
        have HBa : Hid (Below B w w1a) := HB1.out.trans (hb1a.mono (Nat.le_trans hB HB1.out.size))
        rw [show ([109, 111, 114, 101] : List UInt8).length = 4 from rfl] at HS1
        clear hS1 hb1a BMO hap hmo
        go_wp2_with fail
        refine HS1.out.mono ?_
        rintro e w2 ⟨rfl, va2, vs2, hst2, hsep2, _, ho2⟩
        unfold errA
        have HX2 := Lib.hid (HXa.out.put hst2 hsep2 ho2 (Nat.le_trans hB HBa.out.size))
        have HR2 := Lib.hid (HRa.out.only ho2 HXa.out.log.kinds (by decide))
        have HB2 : Hid (Below B w w2) := HBa.out.trans (only_below ho2 HXa.out.low.2 (Nat.le_trans hB HBa.out.size))
        obtain ⟨w3, hw3⟩ : ∃ w3, w2.alloc (.cells #[.int .i64 3, .string ⟨#[]⟩, .bool true] 27) = w3 := ⟨_, rfl⟩
        have hb3 : Below w2.heap.size w2 w3 := by rw [← hw3]; exact (Below.refl _ _).alloc (Nat.le_refl _) _
        obtain ⟨b1, hb1⟩ : ∃ b1, w2.heap.size = b1 := ⟨_, rfl⟩
        have Bb1 : Blk w3 b1 27 [.int .i64 3, .string ⟨#[]⟩, .bool true] := by rw [← hw3, ← hb1]; exact Blk.new w2 27 _
        have HX3 := Lib.hid (HX2.out.below hb3)
        have HR3 := Lib.hid (HR2.out.below hb3)
        have HB3 : Hid (Below B w w3) := HB2.out.trans (hb3.mono (Nat.le_trans hB HB2.out.size))
        have HE1 := Lib.hid Bb1
        have hgf3 : ¬ lFa gl g v va2 0 := fun e => by have := HX2.out.low.2 _ e; omega
        have hS2 := pSync_any gl g v va2 vs2 (d.crash R) rd l w3 HX3.out.log (HG0.out.below' HB3.out hGB) hgf3
        rw [bad_sync l _ HLB.out] at hS2
        have HS2 := Lib.hid hS2
        clear x0 x1 x2 x3 x4 x5 x6 y0 y1 y2 y3 y4 y5 y6
        obtain ⟨x0, x1, x2, x3, x4, x5, x6, y0, y1, y2, y3, y4, y5, y6⟩ := facts7 HX3.out.blk
        clear hst2 hsep2 ho2 hb3 Bb1 hS2 hgf3
        go_wp2_with fail
        refine HS2.out.mono ?_
        rintro e w4 ⟨rfl, va4, vs4, hst4, hsep4, _, ho4⟩
        unfold errA
        have HX4 := Lib.hid (HX3.out.put hst4 hsep4 ho4 (Nat.le_trans hB HB3.out.size))
        have HR4 := Lib.hid (HR3.out.only ho4 HX3.out.log.kinds (by decide))
        have HE4 := Lib.hid (ho4.blk_ HX3.out.log.kinds HE1.out (by decide))
        have HB4 : Hid (Below B w w4) := HB3.out.trans (only_below ho4 HX3.out.low.2 (Nat.le_trans hB HB3.out.size))
        obtain ⟨w5, hw5⟩ : ∃ w5, w4.alloc (.cells #[.int .i64 3, .string ⟨#[]⟩, .bool true] 27) = w5 := ⟨_, rfl⟩
        have hb5 : Below w4.heap.size w4 w5 := by rw [← hw5]; exact (Below.refl _ _).alloc (Nat.le_refl _) _
        obtain ⟨b2, hb2⟩ : ∃ b2, w4.heap.size = b2 := ⟨_, rfl⟩
        have Bb2 : Blk w5 b2 27 [.int .i64 3, .string ⟨#[]⟩, .bool true] := by rw [← hw5, ← hb2]; exact Blk.new w4 27 _
        have HX5 := Lib.hid (HX4.out.below hb5)
        have HR5 := Lib.hid (HR4.out.below hb5)
        have HE5 := Lib.hid (HE4.out.below hb5 HE4.out.lt)
        have HB5 : Hid (Below B w w5) := HB4.out.trans (hb5.mono (Nat.le_trans hB HB4.out.size))
        have HE2 := Lib.hid Bb2
        have hgf5 : ¬ lFa gl g v va4 0 := fun e => by have := HX4.out.low.2 _ e; omega
        have hS3 := pReset_any gl g v va4 vs4 (d.crash R) rd l w5 HX5.out.log (HG0.out.below' HB5.out hGB) hgf5 (by rw [crash_length]; exact HFIT2.out) HEP.out
        rw [bad_reset l _ HLB.out] at hS3
        have HS3 := Lib.hid hS3
        clear x0 x1 x2 x3 x4 x5 x6 y0 y1 y2 y3 y4 y5 y6
        obtain ⟨x0, x1, x2, x3, x4, x5, x6, y0, y1, y2, y3, y4, y5, y6⟩ := facts7 HX5.out.blk
        clear hst4 hsep4 ho4 hb5 Bb2 hS3 hgf5
        go_wp2_with fail
        refine HS3.out.mono ?_
        rintro e w6 ⟨rfl, va6, vs6, hst6, hsep6, _, ho6⟩
        unfold errA
        have HX6 := Lib.hid (HX5.out.put hst6 hsep6 ho6 (Nat.le_trans hB HB5.out.size))
        have HR6 := Lib.hid (HR5.out.only ho6 HX5.out.log.kinds (by decide))
        have HE6 := Lib.hid (ho6.blk_ HX5.out.log.kinds HE5.out (by decide))
        have HE62 := Lib.hid (ho6.blk_ HX5.out.log.kinds HE2.out (by decide))
        have HB6 : Hid (Below B w w6) := HB5.out.trans (only_below ho6 HX5.out.low.2 (Nat.le_trans hB HB5.out.size))
        obtain ⟨w7, hw7⟩ : ∃ w7, w6.alloc (.cells #[.int .i64 3, .string ⟨#[]⟩, .bool true] 27) = w7 := ⟨_, rfl⟩
        have hb7 : Below w6.heap.size w6 w7 := by rw [← hw7]; exact (Below.refl _ _).alloc (Nat.le_refl _) _
        obtain ⟨b3, hb3⟩ : ∃ b3, w6.heap.size = b3 := ⟨_, rfl⟩
        have Bb3 : Blk w7 b3 27 [.int .i64 3, .string ⟨#[]⟩, .bool true] := by rw [← hw7, ← hb3]; exact Blk.new w6 27 _
        have HX7 := Lib.hid (HX6.out.below hb7)
        have HR7 := Lib.hid (HR6.out.below hb7)
        have HE7 := Lib.hid (HE6.out.below hb7 HE6.out.lt)
        have HE72 := Lib.hid (HE62.out.below hb7 HE62.out.lt)
        have HE73 := Lib.hid Bb3
        have HB7 : Hid (Below B w w7) := HB6.out.trans (hb7.mono (Nat.le_trans hB HB6.out.size))
        obtain ⟨z0, z1, z2, _, _, _⟩ := facts3 HE7.out
        clear hst6 hsep6 ho6 hb7 Bb3 x0 x1 x2 x3 x4 x5 x6 y0 y1 y2 y3 y4 y5 y6
        have q3 := failed_any 3 w7
        unfold errA at q3
        have Q3 := Lib.hid q3
        clear q3
        go_wp2_with fail
        refine Q3.out.mono ?_
        rintro e w8 ⟨rfl, hb8⟩
        have HX8 := Lib.hid (HX7.out.below hb8)
        have HR8 := Lib.hid (HR7.out.below hb8)
        have HE8 := Lib.hid (HE7.out.below hb8 HE7.out.lt)
        have HE82 := Lib.hid (HE72.out.below hb8 HE72.out.lt)
        have HE83 := Lib.hid (HE73.out.below hb8 HE73.out.lt)
        have HB8 : Hid (Below B w w8) := HB7.out.trans (hb8.mono (Nat.le_trans hB HB7.out.size))
        clear z0 z1 z2 hb8
        obtain ⟨z0, z1, z2, _, _, _⟩ := facts3 HE8.out
        obtain ⟨t0, t1, t2, _, _, _⟩ := facts3 HE82.out
        have q4 := failed_any 3 w8
        unfold errA at q4
        have Q4 := Lib.hid q4
        clear q4
        go_wp2_with fail
        refine Q4.out.mono ?_
        rintro e w9 ⟨rfl, hb9⟩
        have HX9 := Lib.hid (HX8.out.below hb9)
        have HR9 := Lib.hid (HR8.out.below hb9)
        have HE93 := Lib.hid (HE83.out.below hb9 HE83.out.lt)
        have HB9 : Hid (Below B w w9) := HB8.out.trans (hb9.mono (Nat.le_trans hB HB8.out.size))
        clear z0 z1 z2 t0 t1 t2 hb9
        obtain ⟨z0, z1, z2, _, _, _⟩ := facts3 HE93.out
        have q5 := failed_any 3 w9
        unfold errA at q5
        have Q5 := Lib.hid q5
        clear q5
        go_wp2_with fail
        refine Q5.out.mono ?_
        rintro e w10 ⟨rfl, hb10⟩
        have HX10 := Lib.hid (HX9.out.below hb10)
        have HR10 := Lib.hid (HR9.out.below hb10)
        have HB10 : Hid (Below B w w10) := HB9.out.trans (hb10.mono (Nat.le_trans hB HB9.out.size))
        clear hb10
        go_wp2_with fail
        go_meet
        case rel => exact ⟨va6, vs6, HX10.out, HR10.out, HB10.out⟩
      · have hS1 := pAppend_any gl g v va vs (d.crash R) rd l [109, 111, 114, 101] (some ⟨w1.heap.size, 0, none⟩) 4 w1a (HX1.out.below hb1a).log (HGa.out.below hb1a) HF.out BMO (fun q hq => by
          injection hq with hq
          rw [← hq]
          exact ⟨hmo, fun e => Nat.lt_irrefl _ (HX1.out.log.lt _ e)⟩) (by decide) (by decide) (by rw [crash_length]; exact HFIT.out) HROW.out
        rw [hap] at hS1
        have HS1 := Lib.hid hS1
        have HXa := Lib.hid (HX1.out.below hb1a)
        have HRa := Lib.hid (HR1.out.below hb1a)
        have HBa : Hid (Below B w w1a) := HB1.out.trans (hb1a.mono (Nat.le_trans hB HB1.out.size))
        rw [show ([109, 111, 114, 101] : List UInt8).length = 4 from rfl] at HS1
        clear hS1 hb1a BMO hap hmo
        go_wp2_with fail
        refine HS1.out.mono ?_
        rintro e w2 ⟨rfl, va2, vs2, hst2, hsep2, _, ho2⟩
        unfold errA
        have HX2 := Lib.hid (HXa.out.put hst2 hsep2 ho2 (Nat.le_trans hB HBa.out.size))
        have HR2 := Lib.hid (HRa.out.only ho2 HXa.out.log.kinds (by decide))
        have HB2 : Hid (Below B w w2) := HBa.out.trans (only_below ho2 HXa.out.low.2 (Nat.le_trans hB HBa.out.size))
        obtain ⟨w3, hw3⟩ : ∃ w3, w2.alloc (.cells #[.int .i64 5, .string ⟨#[]⟩, .bool true] 27) = w3 := ⟨_, rfl⟩
        have hb3 : Below w2.heap.size w2 w3 := by rw [← hw3]; exact (Below.refl _ _).alloc (Nat.le_refl _) _
        obtain ⟨b1, hb1⟩ : ∃ b1, w2.heap.size = b1 := ⟨_, rfl⟩
        have Bb1 : Blk w3 b1 27 [.int .i64 5, .string ⟨#[]⟩, .bool true] := by rw [← hw3, ← hb1]; exact Blk.new w2 27 _
        have HX3 := Lib.hid (HX2.out.below hb3)
        have HR3 := Lib.hid (HR2.out.below hb3)
        have HB3 : Hid (Below B w w3) := HB2.out.trans (hb3.mono (Nat.le_trans hB HB2.out.size))
        have HE1 := Lib.hid Bb1
        have hgf3 : ¬ lFa gl g v va2 0 := fun e => by have := HX2.out.low.2 _ e; omega
        have hS2 := pSync_any gl g v va2 vs2 (d.crash R) rd l w3 HX3.out.log (HG0.out.below' HB3.out hGB) hgf3
        rw [bad_sync l _ HLB.out] at hS2
        have HS2 := Lib.hid hS2
        clear x0 x1 x2 x3 x4 x5 x6 y0 y1 y2 y3 y4 y5 y6
        obtain ⟨x0, x1, x2, x3, x4, x5, x6, y0, y1, y2, y3, y4, y5, y6⟩ := facts7 HX3.out.blk
        clear hst2 hsep2 ho2 hb3 Bb1 hS2 hgf3
        go_wp2_with fail
        refine HS2.out.mono ?_
        rintro e w4 ⟨rfl, va4, vs4, hst4, hsep4, _, ho4⟩
        unfold errA
        have HX4 := Lib.hid (HX3.out.put hst4 hsep4 ho4 (Nat.le_trans hB HB3.out.size))
        have HR4 := Lib.hid (HR3.out.only ho4 HX3.out.log.kinds (by decide))
        have HE4 := Lib.hid (ho4.blk_ HX3.out.log.kinds HE1.out (by decide))
        have HB4 : Hid (Below B w w4) := HB3.out.trans (only_below ho4 HX3.out.low.2 (Nat.le_trans hB HB3.out.size))
        obtain ⟨w5, hw5⟩ : ∃ w5, w4.alloc (.cells #[.int .i64 3, .string ⟨#[]⟩, .bool true] 27) = w5 := ⟨_, rfl⟩
        have hb5 : Below w4.heap.size w4 w5 := by rw [← hw5]; exact (Below.refl _ _).alloc (Nat.le_refl _) _
        obtain ⟨b2, hb2⟩ : ∃ b2, w4.heap.size = b2 := ⟨_, rfl⟩
        have Bb2 : Blk w5 b2 27 [.int .i64 3, .string ⟨#[]⟩, .bool true] := by rw [← hw5, ← hb2]; exact Blk.new w4 27 _
        have HX5 := Lib.hid (HX4.out.below hb5)
        have HR5 := Lib.hid (HR4.out.below hb5)
        have HE5 := Lib.hid (HE4.out.below hb5 HE4.out.lt)
        have HB5 : Hid (Below B w w5) := HB4.out.trans (hb5.mono (Nat.le_trans hB HB4.out.size))
        have HE2 := Lib.hid Bb2
        have hgf5 : ¬ lFa gl g v va4 0 := fun e => by have := HX4.out.low.2 _ e; omega
        have hS3 := pReset_any gl g v va4 vs4 (d.crash R) rd l w5 HX5.out.log (HG0.out.below' HB5.out hGB) hgf5 (by rw [crash_length]; exact HFIT2.out) HEP.out
        rw [bad_reset l _ HLB.out] at hS3
        have HS3 := Lib.hid hS3
        clear x0 x1 x2 x3 x4 x5 x6 y0 y1 y2 y3 y4 y5 y6
        obtain ⟨x0, x1, x2, x3, x4, x5, x6, y0, y1, y2, y3, y4, y5, y6⟩ := facts7 HX5.out.blk
        clear hst4 hsep4 ho4 hb5 Bb2 hS3 hgf5
        go_wp2_with fail
        refine HS3.out.mono ?_
        rintro e w6 ⟨rfl, va6, vs6, hst6, hsep6, _, ho6⟩
        unfold errA
        have HX6 := Lib.hid (HX5.out.put hst6 hsep6 ho6 (Nat.le_trans hB HB5.out.size))
        have HR6 := Lib.hid (HR5.out.only ho6 HX5.out.log.kinds (by decide))
        have HE6 := Lib.hid (ho6.blk_ HX5.out.log.kinds HE5.out (by decide))
        have HE62 := Lib.hid (ho6.blk_ HX5.out.log.kinds HE2.out (by decide))
        have HB6 : Hid (Below B w w6) := HB5.out.trans (only_below ho6 HX5.out.low.2 (Nat.le_trans hB HB5.out.size))
        obtain ⟨w7, hw7⟩ : ∃ w7, w6.alloc (.cells #[.int .i64 3, .string ⟨#[]⟩, .bool true] 27) = w7 := ⟨_, rfl⟩
        have hb7 : Below w6.heap.size w6 w7 := by rw [← hw7]; exact (Below.refl _ _).alloc (Nat.le_refl _) _
        obtain ⟨b3, hb3⟩ : ∃ b3, w6.heap.size = b3 := ⟨_, rfl⟩
        have Bb3 : Blk w7 b3 27 [.int .i64 3, .string ⟨#[]⟩, .bool true] := by rw [← hw7, ← hb3]; exact Blk.new w6 27 _
        have HX7 := Lib.hid (HX6.out.below hb7)
        have HR7 := Lib.hid (HR6.out.below hb7)
        have HE7 := Lib.hid (HE6.out.below hb7 HE6.out.lt)
        have HE72 := Lib.hid (HE62.out.below hb7 HE62.out.lt)
        have HE73 := Lib.hid Bb3
        have HB7 : Hid (Below B w w7) := HB6.out.trans (hb7.mono (Nat.le_trans hB HB6.out.size))
        obtain ⟨z0, z1, z2, _, _, _⟩ := facts3 HE7.out
        clear hst6 hsep6 ho6 hb7 Bb3 x0 x1 x2 x3 x4 x5 x6 y0 y1 y2 y3 y4 y5 y6
        have q3 := failed_any 5 w7
        unfold errA at q3
        have Q3 := Lib.hid q3
        clear q3
        go_wp2_with fail
        refine Q3.out.mono ?_
        rintro e w8 ⟨rfl, hb8⟩
        have HX8 := Lib.hid (HX7.out.below hb8)
        have HR8 := Lib.hid (HR7.out.below hb8)
        have HE8 := Lib.hid (HE7.out.below hb8 HE7.out.lt)
        have HE82 := Lib.hid (HE72.out.below hb8 HE72.out.lt)
        have HE83 := Lib.hid (HE73.out.below hb8 HE73.out.lt)
        have HB8 : Hid (Below B w w8) := HB7.out.trans (hb8.mono (Nat.le_trans hB HB7.out.size))
        clear z0 z1 z2 hb8
        obtain ⟨z0, z1, z2, _, _, _⟩ := facts3 HE8.out
        obtain ⟨t0, t1, t2, _, _, _⟩ := facts3 HE82.out
        have q4 := failed_any 3 w8
        unfold errA at q4
        have Q4 := Lib.hid q4
        clear q4
        go_wp2_with fail
        refine Q4.out.mono ?_
        rintro e w9 ⟨rfl, hb9⟩
        have HX9 := Lib.hid (HX8.out.below hb9)
        have HR9 := Lib.hid (HR8.out.below hb9)
        have HE93 := Lib.hid (HE83.out.below hb9 HE83.out.lt)
        have HB9 : Hid (Below B w w9) := HB8.out.trans (hb9.mono (Nat.le_trans hB HB8.out.size))
        clear z0 z1 z2 t0 t1 t2 hb9
        obtain ⟨z0, z1, z2, _, _, _⟩ := facts3 HE93.out
        have q5 := failed_any 3 w9
        unfold errA at q5
        have Q5 := Lib.hid q5
        clear q5
        go_wp2_with fail
        refine Q5.out.mono ?_
        rintro e w10 ⟨rfl, hb10⟩
        have HX10 := Lib.hid (HX9.out.below hb10)
        have HR10 := Lib.hid (HR9.out.below hb10)
        have HB10 : Hid (Below B w w10) := HB9.out.trans (hb10.mono (Nat.le_trans hB HB9.out.size))
        clear hb10
        go_wp2_with fail
        go_meet
        case rel => exact ⟨va6, vs6, HX10.out, HR10.out, HB10.out⟩
  case rest =>
    obtain ⟨vac, vsc, HXC, HRC, HBC⟩ := hcut
    have HKC := Lib.hid HXC.out.disk_
    have HDC : Hid (Pl.DOk (d.crash R) data ee al ∧ (d.crash R).life = -1) := ⟨HDO.out, rfl⟩
    clear x0 x1 x2 x3 x4 x5 x6 y0 y1 y2 y3 y4 y5 y6
    go_wp2_with fail
    go_loopw [13] (fun i W => ∃ (j : Nat) (dk : Pl.Dk) (rdk : Int), j ≤ 3 ∧ i = .int .i64 (j : Int) ∧ Hid (KDisk B W gx g (.pointer (some ⟨gl, 0, none⟩)) (data + 2) v vall dk rdk ss safe rs bad) ∧ Hid (RawAt W A cap R) ∧ Hid (Pl.DOk dk data ee al ∧ dk.life = -1) ∧ Hid (Below B w W)) (fun i _ => 3 - (intOf i).toNat)
    case atStart => exact ⟨0, _, _, by omega, rfl, HKC, HRC, HDC, HBC⟩
    case round =>
      obtain ⟨j, dk, rdk, hj, rfl, HKR, HRR, HDR, HBR⟩ := hrel
      by_cases hj3 : j < 3
      · obtain ⟨xs, hxs⟩ : ∃ x : Nat, die / 2 ^ j = x := ⟨_, rfl⟩
        have hx31 : xs ≤ 31 := by rw [← hxs]; exact Nat.le_trans (Nat.div_le_self _ _) hdie
        have hxi : ((die : Nat) : Int) / 2 ^ j = (xs : Int) := by rw [← hxs]; push_cast; rfl
        obtain ⟨y, hy⟩ : ∃ y : Nat, pickOf (xs : Int) 5 = (y : Int) := ⟨xs % 5, by unfold pickOf; rw [if_neg (by omega)]; omega⟩
        have hy4 : y ≤ 4 := by
          unfold pickOf at hy
          rw [if_neg (by omega)] at hy
          omega
        have hwy : IntKind.i64.wrap (1 + (y : Int)) = 1 + (y : Int) := IntWalk.i64_in _ (by omega)
        have HPK := Lib.hid (kpick_any (xs : Int) 5 wr.drew ⟨by omega, by omega⟩ ⟨by omega, by omega⟩)
        rw [hy] at HPK
        have hkd := HKR.out.below (w' := wr.drew) (Below.refl _ _).drew
        have HDI := Lib.hid (die_any g v dk rdk (1 + (y : Int)) wr.drew hkd.disk ⟨by omega, by omega⟩)
        have HKD := Lib.hid hkd
        have HRD := Lib.hid (HRR.out.below (w' := wr.drew) (Below.refl _ _).drew)
        have HBD : Hid (Below B w wr.drew) := HBR.out.trans (Below.refl B wr).drew
        have hdd := HDR.out.1.dies (1 + (y : Int))
        obtain ⟨d3, hc3, hd3⟩ := hdd.opens (by have := HEE.out; have := pow8; omega)
        have hgfd : ¬ dF g v 0 := fun e => by have := HKR.out.low.2 _ e; omega
        have hpl : placedB (dk.die (1 + (y : Int))).secs.length (1 : Nat) ((data + 2 : Nat) : Int) 4 = true := by
          obtain ⟨stop, hdt⟩ := hdd.dirty
          have := hdt.room
          unfold placedB
          simp only [Bool.and_eq_true, decide_eq_true_eq]
          omega
        obtain ⟨kk, hkk, hop⟩ := pOpen_maybe g v _ d3 1 (data + 2) hgfd hpl hc3
        have HOP := Lib.hid hop
        have HD3 := Lib.hid hd3
        clear hkd hdd hc3 hd3 hgfd hpl hop hy hxs
        obtain ⟨x0, x1, x2, x3, x4, x5, x6, y0, y1, y2, y3, y4, y5, y6⟩ := facts7 HKR.out.blk
        have SR : Hid (wr.cell? ⟨gx, 0, none⟩ = some (.pointer (some ⟨g, 0, none⟩))) := x0
        have SRd : Hid (wr.drew.cell? ⟨gx, 0, none⟩ = some (.pointer (some ⟨g, 0, none⟩))) := x0
        go_wp2_with fail
        refine wp_region_held_drew (S := (fun W : World => W.cell? ⟨gx, 0, none⟩ = some (.pointer (some ⟨g, 0, none⟩)))) (by kernel_rfl) SR.out (fun hHeld => ?_)
        refine wpAnyH_take (i := 0) (oi := _) (v := ?_) rfl (by kernel_rfl) (by kernel_rfl) (by kernel_rfl) (fun _ _ _ h => h) (Or.inl ⟨by rfl, ?_⟩) (by assumption) ?_
        rotate_left
        · intro W hSw
          (try dsimp only at hSw)
          go_simp
          rfl
        (try simp only [Act.put, List.getElem_toArray, List.getElem_cons_succ, List.getElem_cons_zero, List.setIfInBounds_toArray, List.set_cons_zero, List.set_cons_succ])
        refine wpAnyH_take (i := 1) (oi := _) (v := ?_) rfl (by kernel_rfl) (by kernel_rfl) (by kernel_rfl) (fun _ _ _ h => h) (Or.inl ⟨by rfl, ?_⟩) (by assumption) ?_
        rotate_left
        · intro W hSw
          (try dsimp only at hSw)
          go_simp
          rfl
        (try simp only [Act.put, List.getElem_toArray, List.getElem_cons_succ, List.getElem_cons_zero, List.setIfInBounds_toArray, List.set_cons_zero, List.set_cons_succ])
        refine wpAnyH_take (i := 2) (oi := _) (v := ?_) rfl (by kernel_rfl) (by kernel_rfl) (by kernel_rfl) (fun _ _ _ h => h) (Or.inl ⟨by rfl, ?_⟩) (by assumption) ?_
        rotate_left
        · intro W hSw
          (try dsimp only at hSw)
          go_simp
          rfl
        (try simp only [Act.put, List.getElem_toArray, List.getElem_cons_succ, List.getElem_cons_zero, List.setIfInBounds_toArray, List.set_cons_zero, List.set_cons_succ])
        refine wpAnyH_take (i := 3) (oi := _) (v := ?_) rfl (by kernel_rfl) (by kernel_rfl) (by kernel_rfl) (fun _ _ _ h => h) (Or.inl ⟨by rfl, ?_⟩) (by assumption) ?_
        rotate_left
        · intro W hSw
          (try dsimp only at hSw)
          go_simp
          rfl
        (try simp only [Act.put, List.getElem_toArray, List.getElem_cons_succ, List.getElem_cons_zero, List.setIfInBounds_toArray, List.set_cons_zero, List.set_cons_succ])
        refine wpAnyH_take (i := 4) (oi := _) (v := ?_) rfl (by kernel_rfl) (by kernel_rfl) (by kernel_rfl) (fun _ _ _ h => h) (Or.inl ⟨by rfl, ?_⟩) (by assumption) ?_
        rotate_left
        · intro W hSw
          (try dsimp only at hSw)
          go_simp
          rfl
        (try simp only [Act.put, List.getElem_toArray, List.getElem_cons_succ, List.getElem_cons_zero, List.setIfInBounds_toArray, List.set_cons_zero, List.set_cons_succ])
        refine wpAnyH_take (i := 5) (oi := _) (v := ?_) rfl (by kernel_rfl) (by kernel_rfl) (by kernel_rfl) (fun _ _ _ h => h) (Or.inl ⟨by rfl, ?_⟩) (by assumption) ?_
        rotate_left
        · intro W hSw
          (try dsimp only at hSw)
          go_simp
          rfl
        (try simp only [Act.put, List.getElem_toArray, List.getElem_cons_succ, List.getElem_cons_zero, List.setIfInBounds_toArray, List.set_cons_zero, List.set_cons_succ])
        refine wpAnyH_take (i := 6) (oi := _) (v := .int .i64 ((xs : Nat) : Int)) rfl (by kernel_rfl) (by kernel_rfl) (by kernel_rfl) (fun _ _ _ h => h) (Or.inl ⟨by rfl, ?_⟩) (by assumption) ?_
        · intro W hSw
          (try dsimp only at hSw)
          go_simp
        (try simp only [Act.put, List.getElem_toArray, List.getElem_cons_succ, List.getElem_cons_zero, List.setIfInBounds_toArray, List.set_cons_zero, List.set_cons_succ])
        refine wpAnyH_ready (rs := [7]) (by kernel_rfl) (by simp) ?_
        refine AllReadyH.cons (o := _) rfl (fun K hK => ?_) AllReadyH.nil
        go_simp
        refine HPK.out.mono ?_
        rintro e wq ⟨rfl, rfl⟩
        go_wp2_with fail
        refine hK.out _ _ SRd.out (fun hHeldq => ?_)
        clear hK K
        (try simp only [Act.put, List.getElem_toArray, List.getElem_cons_succ, List.getElem_cons_zero, List.setIfInBounds_toArray, List.set_cons_zero, List.set_cons_succ])
        refine wpAnyH_take (i := 8) (oi := _) (v := .int .i64 (1 + ((y : Nat) : Int))) rfl (by kernel_rfl) (by kernel_rfl) (by kernel_rfl) (fun _ _ _ h => h) (Or.inl ⟨by rfl, ?_⟩) (by assumption) ?_
        · intro W hSw
          (try dsimp only at hSw)
          go_simp
        (try simp only [Act.put, List.getElem_toArray, List.getElem_cons_succ, List.getElem_cons_zero, List.setIfInBounds_toArray, List.set_cons_zero, List.set_cons_succ])
        refine wpAnyH_ready (rs := [9]) (by kernel_rfl) (by simp) ?_
        refine AllReadyH.cons (o := _) rfl (fun K hK => ?_) AllReadyH.nil
        go_simp
        refine HDI.out.mono ?_
        rintro e w4 ⟨rfl, hd4, ho4⟩
        have HK4 := Lib.hid (HKD.out.disked hd4 ho4)
        have HR4 := Lib.hid (HRD.out.only ho4 HKD.out.disk.kinds (by decide))
        have HB4 : Hid (Below B w w4) := HBD.out.trans (only_below ho4 HKD.out.low.2 (Nat.le_trans hB HBD.out.size))
        have S4 : Hid (w4.cell? ⟨gx, 0, none⟩ = some (.pointer (some ⟨g, 0, none⟩))) := HK4.out.blk.cell 0
        clear hd4 ho4
        go_wp2_with fail
        refine hK.out _ _ S4.out (fun _ => ?_)
        refine wpAnyH_done (by kernel_rfl) ?_ _
        clear hK K hHeld hHeldq x0 x1 x2 x3 x4 x5 x6 y0 y1 y2 y3 y4 y5 y6
        go_upto_region 15 with fail
        go_cut [14, 15] from 70 to 108 (fun s14 s15 wx => ∃ (o : Option Addr) (b : Nat) (rd5 : Int), s14 = .pointer o ∧ s15 = .pointer (some ⟨b, 0, none⟩) ∧ (kk = 3 → o = none) ∧ Hid (Blk wx b 27 [.int .i64 ((kk : Nat) : Int), .string ⟨#[]⟩, .bool true]) ∧ Hid (KDisk B wx gx g (.pointer (some ⟨gl, 0, none⟩)) (data + 2) v vall d3 rd5 ss safe rs bad) ∧ Hid (RawAt wx A cap R) ∧ Hid (Below B w wx))
        case first =>
          have SC : Hid (w4.cell? ⟨gx, 0, none⟩ = some (.pointer (some ⟨g, 0, none⟩)) ∧ w4.cell? ⟨gx, 2, none⟩ = some (.int .i64 ((data + 2 : Nat) : Int))) := ⟨HK4.out.blk.cell 0, HK4.out.blk.cell 2⟩
          refine wp_region_held_drew (S := (fun W : World => W.cell? ⟨gx, 0, none⟩ = some (.pointer (some ⟨g, 0, none⟩)) ∧ W.cell? ⟨gx, 2, none⟩ = some (.int .i64 ((data + 2 : Nat) : Int)))) (by kernel_rfl) SC.out (fun hHeld => ?_)
          refine wpAnyH_take (i := 0) (oi := _) (v := ?_) rfl (by kernel_rfl) (by kernel_rfl) (by kernel_rfl) (fun _ _ _ h => h) (Or.inl ⟨by rfl, ?_⟩) (by assumption) ?_
          rotate_left
          · intro W hSw
            (try dsimp only at hSw)
            go_simp
            rfl
          (try simp only [Act.put, List.getElem_toArray, List.getElem_cons_succ, List.getElem_cons_zero, List.setIfInBounds_toArray, List.set_cons_zero, List.set_cons_succ])
          refine wpAnyH_take (i := 1) (oi := _) (v := ?_) rfl (by kernel_rfl) (by kernel_rfl) (by kernel_rfl) (fun _ _ _ h => h) (Or.inl ⟨by rfl, ?_⟩) (by assumption) ?_
          rotate_left
          · intro W hSw
            (try dsimp only at hSw)
            go_simp
            rfl
          (try simp only [Act.put, List.getElem_toArray, List.getElem_cons_succ, List.getElem_cons_zero, List.setIfInBounds_toArray, List.set_cons_zero, List.set_cons_succ])
          refine wpAnyH_take (i := 2) (oi := _) (v := ?_) rfl (by kernel_rfl) (by kernel_rfl) (by kernel_rfl) (fun _ _ _ h => h) (Or.inl ⟨by rfl, ?_⟩) (by assumption) ?_
          rotate_left
          · intro W hSw
            (try dsimp only at hSw)
            go_simp
            rfl
          (try simp only [Act.put, List.getElem_toArray, List.getElem_cons_succ, List.getElem_cons_zero, List.setIfInBounds_toArray, List.set_cons_zero, List.set_cons_succ])
          refine wpAnyH_take (i := 3) (oi := _) (v := ?_) rfl (by kernel_rfl) (by kernel_rfl) (by kernel_rfl) (fun _ _ _ h => h) (Or.inl ⟨by rfl, ?_⟩) (by assumption) ?_
          rotate_left
          · intro W hSw
            (try dsimp only at hSw)
            go_simp
            rfl
          (try simp only [Act.put, List.getElem_toArray, List.getElem_cons_succ, List.getElem_cons_zero, List.setIfInBounds_toArray, List.set_cons_zero, List.set_cons_succ])
          refine wpAnyH_take (i := 4) (oi := _) (v := ?_) rfl (by kernel_rfl) (by kernel_rfl) (by kernel_rfl) (fun _ _ _ h => h) (Or.inl ⟨by rfl, ?_⟩) (by assumption) ?_
          rotate_left
          · intro W hSw
            (try dsimp only at hSw)
            go_simp
            rfl
          (try simp only [Act.put, List.getElem_toArray, List.getElem_cons_succ, List.getElem_cons_zero, List.setIfInBounds_toArray, List.set_cons_zero, List.set_cons_succ])
          refine wpAnyH_take (i := 5) (oi := _) (v := ?_) rfl (by kernel_rfl) (by kernel_rfl) (by kernel_rfl) (fun _ _ _ h => h) (Or.inl ⟨by rfl, ?_⟩) (by assumption) ?_
          rotate_left
          · intro W hSw
            (try dsimp only at hSw)
            go_simp
            rfl
          (try simp only [Act.put, List.getElem_toArray, List.getElem_cons_succ, List.getElem_cons_zero, List.setIfInBounds_toArray, List.set_cons_zero, List.set_cons_succ])
          refine wpAnyH_take (i := 6) (oi := _) (v := ?_) rfl (by kernel_rfl) (by kernel_rfl) (by kernel_rfl) (fun _ _ _ h => h) (Or.inl ⟨by rfl, ?_⟩) (by assumption) ?_
          rotate_left
          · intro W hSw
            (try dsimp only at hSw)
            go_simp
            rfl
          (try simp only [Act.put, List.getElem_toArray, List.getElem_cons_succ, List.getElem_cons_zero, List.setIfInBounds_toArray, List.set_cons_zero, List.set_cons_succ])
          refine wpAnyH_take (i := 7) (oi := _) (v := ?_) rfl (by kernel_rfl) (by kernel_rfl) (by kernel_rfl) (fun _ _ _ h => h) (Or.inl ⟨by rfl, ?_⟩) (by assumption) ?_
          rotate_left
          · intro W hSw
            (try dsimp only at hSw)
            go_simp
            rfl
          (try simp only [Act.put, List.getElem_toArray, List.getElem_cons_succ, List.getElem_cons_zero, List.setIfInBounds_toArray, List.set_cons_zero, List.set_cons_succ])
          refine wpAnyH_ready (rs := [8, 12]) (by kernel_rfl) (by simp) ?_
          refine AllReadyH.cons (o := _) rfl (fun K hK => ?_) ?_
          · go_simp
            refine (HOP.out w4.drew _ (HK4.out.disk.below (Below.refl _ _).drew) ((HG0.out.below' HB4.out hGB).below (Below.refl _ _).drew)).mono ?_
            rintro e wo ⟨o, rfl, hno, ⟨rd5, hdo⟩, hoo⟩
            have hno' := hno
            have hkd := (HK4.out.below (w' := w4.drew) (Below.refl _ _).drew)
            have HKo := Lib.hid (hkd.disked hdo hoo)
            have HRo := Lib.hid ((HR4.out.below (w' := w4.drew) (Below.refl _ _).drew).only hoo hkd.disk.kinds (by decide))
            have HBo : Hid (Below B w wo) := HB4.out.trans ((Below.refl B w4).drew.trans (only_below hoo hkd.low.2 (Nat.le_trans hB HB4.out.size)))
            have So : Hid (wo.cell? ⟨gx, 0, none⟩ = some (.pointer (some ⟨g, 0, none⟩)) ∧ wo.cell? ⟨gx, 2, none⟩ = some (.int .i64 ((data + 2 : Nat) : Int))) := ⟨HKo.out.blk.cell 0, HKo.out.blk.cell 2⟩
            have hso := HBo.out.size
            unfold errA
            clear hno hdo hoo hkd
            go_wp2_with fail
            refine hK.out _ _ So.out (fun hHeldo => ?_)
            clear hK K
            (try simp only [Act.put, List.getElem_toArray, List.getElem_cons_succ, List.getElem_cons_zero, List.setIfInBounds_toArray, List.set_cons_zero, List.set_cons_succ])
            refine wpAnyH_take (i := 9) (oi := _) (v := ?_) rfl (by kernel_rfl) (by kernel_rfl) (by kernel_rfl) (fun _ _ _ h => h) (Or.inl ⟨by rfl, ?_⟩) (by assumption) ?_
            rotate_left
            · intro W hSw
              (try dsimp only at hSw)
              go_simp
              rfl
            (try simp only [Act.put, List.getElem_toArray, List.getElem_cons_succ, List.getElem_cons_zero, List.setIfInBounds_toArray, List.set_cons_zero, List.set_cons_succ])
            refine wpAnyH_take (i := 10) (oi := _) (v := ?_) rfl (by kernel_rfl) (by kernel_rfl) (by kernel_rfl) (fun _ _ _ h => h) (Or.inl ⟨by rfl, ?_⟩) (by assumption) ?_
            rotate_left
            · intro W hSw
              (try dsimp only at hSw)
              go_simp
              rfl
            (try simp only [Act.put, List.getElem_toArray, List.getElem_cons_succ, List.getElem_cons_zero, List.setIfInBounds_toArray, List.set_cons_zero, List.set_cons_succ])
            refine wpAnyH_take (i := 11) (oi := _) (v := ?_) rfl (by kernel_rfl) (by kernel_rfl) (by kernel_rfl) (fun _ _ _ h => h) (Or.inl ⟨by rfl, ?_⟩) (by assumption) ?_
            rotate_left
            · intro W hSw
              (try dsimp only at hSw)
              go_simp
              rfl
            (try simp only [Act.put, List.getElem_toArray, List.getElem_cons_succ, List.getElem_cons_zero, List.setIfInBounds_toArray, List.set_cons_zero, List.set_cons_succ])
            refine wpAnyH_ready (rs := [12]) (by kernel_rfl) (by simp) ?_
            refine AllReadyH.cons (o := _) rfl (fun K hK => ?_) AllReadyH.nil
            go_simp
            obtain ⟨wp, hwp⟩ : ∃ wp, wo.alloc (.cells #[.int .i64 0, .string ⟨#[]⟩, .bool false] 27) = wp := ⟨_, rfl⟩
            have hbp : Below wo.heap.size wo wp := by rw [← hwp]; exact (Below.refl _ _).alloc (Nat.le_refl _) _
            have Bp : Blk wp wo.heap.size 27 [.int .i64 0, .string ⟨#[]⟩, .bool false] := by rw [← hwp]; exact Blk.new wo 27 _
            have HKp := Lib.hid (HKo.out.below hbp)
            have HRp := Lib.hid (HRo.out.below hbp)
            have HBp : Hid (Below B w wp) := HBo.out.trans (hbp.mono (Nat.le_trans hB hso))
            have Sp : Hid (wp.cell? ⟨gx, 0, none⟩ = some (.pointer (some ⟨g, 0, none⟩)) ∧ wp.cell? ⟨gx, 2, none⟩ = some (.int .i64 ((data + 2 : Nat) : Int))) := ⟨HKp.out.blk.cell 0, HKp.out.blk.cell 2⟩
            obtain ⟨e0, e1, e2, f0, f1, f2⟩ := facts3 Bp
            have HEp := Lib.hid Bp
            clear hbp Bp
            rw [hwp]
            refine hK.out _ _ Sp.out (fun hHeldp => ?_)
            clear hK K
            (try simp only [Act.put, List.getElem_toArray, List.getElem_cons_succ, List.getElem_cons_zero, List.setIfInBounds_toArray, List.set_cons_zero, List.set_cons_succ])
            refine wpAnyH_take (i := 13) (oi := _) (v := ?_) rfl (by kernel_rfl) (by kernel_rfl) (by kernel_rfl) (fun _ _ _ h => h) (Or.inl ⟨by rfl, ?_⟩) (by assumption) ?_
            rotate_left
            · intro W hSw
              (try dsimp only at hSw)
              go_simp
              rfl
            (try simp only [Act.put, List.getElem_toArray, List.getElem_cons_succ, List.getElem_cons_zero, List.setIfInBounds_toArray, List.set_cons_zero, List.set_cons_succ])
            refine wpAnyH_ready (rs := [14]) (by kernel_rfl) (by simp) ?_
            refine AllReadyH.cons (o := _) rfl (fun K hK => ?_) AllReadyH.nil
            go_simp
            have HB5 : Hid (Below B w (set3 wp wo.heap.size kk)) := by
              have h1 : B ≤ wo.heap.size := Nat.le_trans hB hso
              exact ((HBp.out.setCell (p := ⟨wo.heap.size, 0, none⟩) h1 _).setCell (p := ⟨wo.heap.size, 1, none⟩) h1 _).setCell (p := ⟨wo.heap.size, 2, none⟩) h1 _
            have HK5 := Lib.hid (HKp.out.setErr HEp.out kk)
            have HR5 := Lib.hid (HRp.out.setErr HEp.out kk)
            have HE5 : Hid (Blk (set3 wp wo.heap.size kk) wo.heap.size 27 [.int .i64 ((kk : Nat) : Int), .string ⟨#[]⟩, .bool true]) := HEp.out.set3 _ _ _
            refine hK.out _ _ ⟨HK5.out.blk.cell 0, HK5.out.blk.cell 2⟩ (fun _ => ?_)
            refine wpAnyH_done (by kernel_rfl) ?_ _
            clear hK K hHeld hHeldo hHeldp e0 e1 e2 f0 f1 f2
            obtain ⟨w5, hw5⟩ : ∃ w5, ((wp.setCell ⟨wo.heap.size, 0, none⟩ (.int .i64 ((kk : Nat) : Int))).setCell ⟨wo.heap.size, 1, none⟩ (.string ⟨#[]⟩)).setCell ⟨wo.heap.size, 2, none⟩ (.bool true) = w5 := ⟨_, rfl⟩
            rw [show set3 wp wo.heap.size kk = w5 from hw5] at HK5 HR5 HE5 HB5
            rw [hw5]
            go_wp2_with fail
            go_meet
            case rel => exact ⟨_, _, rd5, rfl, rfl, hno', HE5, HK5, HR5, HB5⟩
          · refine AllReadyH.cons (o := _) rfl (fun K hK => ?_) AllReadyH.nil
            go_simp
            obtain ⟨wo, hwo⟩ : ∃ wo, (w4.alloc (.cells #[.int .i64 0, .string ⟨#[]⟩, .bool false] 27)).drew = wo := ⟨_, rfl⟩
            have hbo : Below w4.heap.size w4 wo := by rw [← hwo]; exact Below.drew ((Below.refl _ _).alloc (Nat.le_refl _) _)
            have Bo : Blk wo w4.heap.size 27 [.int .i64 0, .string ⟨#[]⟩, .bool false] := by rw [← hwo]; exact Blk.new w4 27 _
            have HKo := Lib.hid (HK4.out.below hbo)
            have HRo := Lib.hid (HR4.out.below hbo)
            have HBo : Hid (Below B w wo) := HB4.out.trans (hbo.mono (Nat.le_trans hB HB4.out.size))
            have HEo := Lib.hid Bo
            have hs4 := HB4.out.size
            have So : Hid (wo.cell? ⟨gx, 0, none⟩ = some (.pointer (some ⟨g, 0, none⟩)) ∧ wo.cell? ⟨gx, 2, none⟩ = some (.int .i64 ((data + 2 : Nat) : Int))) := ⟨HKo.out.blk.cell 0, HKo.out.blk.cell 2⟩
            rw [hwo]
            clear hbo Bo hwo
            refine hK.out _ _ So.out (fun hHeldo => ?_)
            clear hK K
            (try simp only [Act.put, List.getElem_toArray, List.getElem_cons_succ, List.getElem_cons_zero, List.setIfInBounds_toArray, List.set_cons_zero, List.set_cons_succ])
            refine wpAnyH_ready (rs := [8]) (by kernel_rfl) (by simp) ?_
            refine AllReadyH.cons (o := _) rfl (fun K hK => ?_) AllReadyH.nil
            go_simp
            refine (HOP.out wo _ HKo.out.disk (HG0.out.below' HBo.out hGB)).mono ?_
            rintro e wp ⟨o, rfl, hno, ⟨rd5, hdo⟩, hoo⟩
            have hno' := hno
            have HKp := Lib.hid (HKo.out.disked hdo hoo)
            have HRp := Lib.hid (HRo.out.only hoo HKo.out.disk.kinds (by decide))
            have HEp := Lib.hid (hoo.blk_ HKo.out.disk.kinds HEo.out (by decide))
            have HBp : Hid (Below B w wp) := HBo.out.trans (only_below hoo HKo.out.low.2 (Nat.le_trans hB HBo.out.size))
            have Sp : Hid (wp.cell? ⟨gx, 0, none⟩ = some (.pointer (some ⟨g, 0, none⟩)) ∧ wp.cell? ⟨gx, 2, none⟩ = some (.int .i64 ((data + 2 : Nat) : Int))) := ⟨HKp.out.blk.cell 0, HKp.out.blk.cell 2⟩
            obtain ⟨e0, e1, e2, f0, f1, f2⟩ := facts3 HEp.out
            unfold errA
            clear hno hdo hoo
            go_wp2_with fail
            refine hK.out _ _ Sp.out (fun hHeldp => ?_)
            clear hK K
            (try simp only [Act.put, List.getElem_toArray, List.getElem_cons_succ, List.getElem_cons_zero, List.setIfInBounds_toArray, List.set_cons_zero, List.set_cons_succ])
            refine wpAnyH_take (i := 9) (oi := _) (v := ?_) rfl (by kernel_rfl) (by kernel_rfl) (by kernel_rfl) (fun _ _ _ h => h) (Or.inl ⟨by rfl, ?_⟩) (by assumption) ?_
            rotate_left
            · intro W hSw
              (try dsimp only at hSw)
              go_simp
              rfl
            (try simp only [Act.put, List.getElem_toArray, List.getElem_cons_succ, List.getElem_cons_zero, List.setIfInBounds_toArray, List.set_cons_zero, List.set_cons_succ])
            refine wpAnyH_take (i := 10) (oi := _) (v := ?_) rfl (by kernel_rfl) (by kernel_rfl) (by kernel_rfl) (fun _ _ _ h => h) (Or.inl ⟨by rfl, ?_⟩) (by assumption) ?_
            rotate_left
            · intro W hSw
              (try dsimp only at hSw)
              go_simp
              rfl
            (try simp only [Act.put, List.getElem_toArray, List.getElem_cons_succ, List.getElem_cons_zero, List.setIfInBounds_toArray, List.set_cons_zero, List.set_cons_succ])
            refine wpAnyH_take (i := 11) (oi := _) (v := ?_) rfl (by kernel_rfl) (by kernel_rfl) (by kernel_rfl) (fun _ _ _ h => h) (Or.inl ⟨by rfl, ?_⟩) (by assumption) ?_
            rotate_left
            · intro W hSw
              (try dsimp only at hSw)
              go_simp
              rfl
            (try simp only [Act.put, List.getElem_toArray, List.getElem_cons_succ, List.getElem_cons_zero, List.setIfInBounds_toArray, List.set_cons_zero, List.set_cons_succ])
            refine wpAnyH_take (i := 13) (oi := _) (v := ?_) rfl (by kernel_rfl) (by kernel_rfl) (by kernel_rfl) (fun _ _ _ h => h) (Or.inl ⟨by rfl, ?_⟩) (by assumption) ?_
            rotate_left
            · intro W hSw
              (try dsimp only at hSw)
              go_simp
              rfl
            (try simp only [Act.put, List.getElem_toArray, List.getElem_cons_succ, List.getElem_cons_zero, List.setIfInBounds_toArray, List.set_cons_zero, List.set_cons_succ])
            refine wpAnyH_ready (rs := [14]) (by kernel_rfl) (by simp) ?_
            refine AllReadyH.cons (o := _) rfl (fun K hK => ?_) AllReadyH.nil
            go_simp
            have HB5 : Hid (Below B w (set3 wp w4.heap.size kk)) := by
              have h1 : B ≤ w4.heap.size := Nat.le_trans hB hs4
              exact ((HBp.out.setCell (p := ⟨w4.heap.size, 0, none⟩) h1 _).setCell (p := ⟨w4.heap.size, 1, none⟩) h1 _).setCell (p := ⟨w4.heap.size, 2, none⟩) h1 _
            have HK5 := Lib.hid (HKp.out.setErr HEp.out kk)
            have HR5 := Lib.hid (HRp.out.setErr HEp.out kk)
            have HE5 : Hid (Blk (set3 wp w4.heap.size kk) w4.heap.size 27 [.int .i64 ((kk : Nat) : Int), .string ⟨#[]⟩, .bool true]) := HEp.out.set3 _ _ _
            refine hK.out _ _ ⟨HK5.out.blk.cell 0, HK5.out.blk.cell 2⟩ (fun _ => ?_)
            refine wpAnyH_done (by kernel_rfl) ?_ _
            clear hK K hHeld hHeldo hHeldp e0 e1 e2 f0 f1 f2
            obtain ⟨w5, hw5⟩ : ∃ w5, ((wp.setCell ⟨w4.heap.size, 0, none⟩ (.int .i64 ((kk : Nat) : Int))).setCell ⟨w4.heap.size, 1, none⟩ (.string ⟨#[]⟩)).setCell ⟨w4.heap.size, 2, none⟩ (.bool true) = w5 := ⟨_, rfl⟩
            rw [show set3 wp w4.heap.size kk = w5 from hw5] at HK5 HR5 HE5 HB5
            rw [hw5]
            go_wp2_with fail
            go_meet
            case rel => exact ⟨_, _, rd5, rfl, rfl, hno', HE5, HK5, HR5, HB5⟩
        case rest =>
          obtain ⟨o, bb, rd5, rfl, rfl, hno, HE5, HK5, HR5, HB5⟩ := hcut
          rcases hkk with rfl | rfl
          · obtain rfl := hno rfl
            obtain ⟨x0, x1, x2, x3, x4, x5, x6, y0, y1, y2, y3, y4, y5, y6⟩ := facts7 HK5.out.blk
            obtain ⟨z0, z1, z2, _, _, _⟩ := facts3 HE5.out
            have q3 := failed_any 3 wc
            unfold errA at q3
            have Q3 := Lib.hid q3
            clear q3
            go_wp2_with fail
            refine Q3.out.mono ?_
            rintro e w6 ⟨rfl, hb6⟩
            have HK6 := Lib.hid (HK5.out.below hb6)
            have HR6 := Lib.hid (HR5.out.below hb6)
            have HB6 : Hid (Below B w w6) := HB5.out.trans (hb6.mono (Nat.le_trans hB HB5.out.size))
            have HCR6 := Lib.hid (crash_any g v d3 rd5 A cap R w6 HK6.out.disk HR6.out.raw (by have := HR6.out.len; omega) HR6.out.src (HR6.out.far HK6.out.disk))
            clear hb6 z0 z1 z2 x0 x1 x2 x3 x4 x5 x6 y0 y1 y2 y3 y4 y5 y6
            obtain ⟨x0, x1, x2, x3, x4, x5, x6, y0, y1, y2, y3, y4, y5, y6⟩ := facts7 HK6.out.blk
            go_wp2_with fail
            refine HCR6.out.mono ?_
            rintro e w7 ⟨rfl, hd7, ho7⟩
            have HK7 := Lib.hid (HK6.out.disked hd7 ho7)
            have HR7 := Lib.hid (HR6.out.only ho7 HK6.out.disk.kinds (by decide))
            have HB7 : Hid (Below B w w7) := HB6.out.trans (only_below ho7 HK6.out.low.2 (Nat.le_trans hB HB6.out.size))
            clear hd7 ho7
            go_wp2_with fail
            exact ⟨⟨j + 1, d3.crash R, rd5, by omega, by go_num, HK7, HR7, ⟨HD3.out R, rfl⟩, HB7⟩, by simp [intOf]; omega⟩
          · clear hno
            obtain ⟨x0, x1, x2, x3, x4, x5, x6, y0, y1, y2, y3, y4, y5, y6⟩ := facts7 HK5.out.blk
            obtain ⟨z0, z1, z2, _, _, _⟩ := facts3 HE5.out
            have q3 := failed_any 0 wc
            unfold errA at q3
            have Q3 := Lib.hid q3
            clear q3
            go_wp2_with fail
            refine Q3.out.mono ?_
            rintro e w6 ⟨rfl, hb6⟩
            have HK6 := Lib.hid (HK5.out.below hb6)
            have HR6 := Lib.hid (HR5.out.below hb6)
            have HB6 : Hid (Below B w w6) := HB5.out.trans (hb6.mono (Nat.le_trans hB HB5.out.size))
            have HCR6 := Lib.hid (crash_any g v d3 rd5 A cap R w6 HK6.out.disk HR6.out.raw (by have := HR6.out.len; omega) HR6.out.src (HR6.out.far HK6.out.disk))
            clear hb6 z0 z1 z2 x0 x1 x2 x3 x4 x5 x6 y0 y1 y2 y3 y4 y5 y6
            obtain ⟨x0, x1, x2, x3, x4, x5, x6, y0, y1, y2, y3, y4, y5, y6⟩ := facts7 HK6.out.blk
            go_wp2_with fail
            refine HCR6.out.mono ?_
            rintro e w7 ⟨rfl, hd7, ho7⟩
            have HK7 := Lib.hid (HK6.out.disked hd7 ho7)
            have HR7 := Lib.hid (HR6.out.only ho7 HK6.out.disk.kinds (by decide))
            have HB7 : Hid (Below B w w7) := HB6.out.trans (only_below ho7 HK6.out.low.2 (Nat.le_trans hB HB6.out.size))
            clear hd7 ho7
            go_wp2_with fail
            exact ⟨⟨j + 1, d3.crash R, rd5, by omega, by go_num, HK7, HR7, ⟨HD3.out R, rfl⟩, HB7⟩, by simp [intOf]; omega⟩
      · obtain rfl : j = 3 := by omega
        obtain ⟨x0, x1, x2, x3, x4, x5, x6, y0, y1, y2, y3, y4, y5, y6⟩ := facts7 HKR.out.blk
        have HCP := Lib.hid (copy_any g v dk rdk wr HKR.out.disk)
        obtain ⟨d5, hop5, hok5⟩ := HDR.out.1.lives (by have := HEE.out; have := pow8; omega) HDR.out.2
        obtain ⟨l5, hl5⟩ : ∃ l5, (⟨1, data, ee, (Pl.flat al).length, al, false⟩ : Pl.Lg) = l5 := ⟨_, rfl⟩
        have HAL5 : Hid (l5.all = al) := by rw [Hid, ← hl5]
        have HEP5 : Hid (l5.epoch = ee) := by rw [Hid, ← hl5]
        rw [hl5] at hop5 hok5
        have HOK5 := Lib.hid hok5
        have hpl : placedB dk.secs.length (1 : Nat) ((data + 2 : Nat) : Int) 4 = true := by
          obtain ⟨stop, hdt⟩ := HDR.out.1.dirty
          have := hdt.room
          unfold placedB
          simp only [Bool.and_eq_true, decide_eq_true_eq]
          omega
        have HOP5 := Lib.hid hop5
        have HPL5 := Lib.hid hpl
        clear hop5 hok5 hpl hl5
        go_wp2_with fail
        refine HCP.out.mono ?_
        rintro e wd ⟨g2, v2, rfl, hdk, hbd, hfar⟩
        have HKM := Lib.hid (HKR.out.moved hbd hdk hfar (Nat.le_trans hB HBR.out.size))
        have HBM : Hid (Below B w (wd.setCell ⟨gx, 0, none⟩ (.pointer (some ⟨g2, 0, none⟩)))) := (HBR.out.trans (hbd.mono (Nat.le_trans hB HBR.out.size))).setCell (p := ⟨gx, 0, none⟩) HKR.out.low.1 _
        have hgf2 : ¬ dF g2 v2 0 := fun e => by have := hfar _ e; have := HBR.out.size; omega
        have HCO := Lib.hid (fun W h1 h2 => pOpen_yes g2 v2 dk d5 rdk 1 (data + 2) l5 W h1 h2 hgf2 HPL5.out HOP5.out)
        obtain ⟨z0, _, _, _, _, _, _, f0, _, _, _, _, _, _⟩ := facts7 (HKR.out.below hbd).blk
        clear hdk hbd hfar x0 x1 x2 x3 x4 x5 x6 y0 y1 y2 y3 y4 y5 y6
        go_upto_region 21 with fail
        clear z0 f0
        obtain ⟨wm, hwm⟩ : ∃ wm, wd.setCell ⟨gx, 0, none⟩ (.pointer (some ⟨g2, 0, none⟩)) = wm := ⟨_, rfl⟩
        rw [hwm] at HKM HBM ⊢
        clear hwm
        have SC : Hid (wm.cell? ⟨gx, 0, none⟩ = some (.pointer (some ⟨g2, 0, none⟩)) ∧ wm.cell? ⟨gx, 2, none⟩ = some (.int .i64 ((data + 2 : Nat) : Int))) := ⟨HKM.out.blk.cell 0, HKM.out.blk.cell 2⟩
        go_cut [17, 18] from 109 (fun s17 s18 wx => ∃ gl2 b2 va2 vs2 rd2, s17 = .pointer (some ⟨gl2, 0, none⟩) ∧ s18 = .pointer (some ⟨b2, 0, none⟩) ∧ Hid (Blk wx b2 27 [.int .i64 0, .string ⟨#[]⟩, .bool true]) ∧ Hid (KPre B wx gx g2 (.pointer (some ⟨gl, 0, none⟩)) gl2 (data + 2) v2 va2 vall vs2 d5 rd2 l5 ss safe rs bad) ∧ Hid (Below B w wx))
        case first =>
          refine wp_region_held_drew (S := (fun W : World => W.cell? ⟨gx, 0, none⟩ = some (.pointer (some ⟨g2, 0, none⟩)) ∧ W.cell? ⟨gx, 2, none⟩ = some (.int .i64 ((data + 2 : Nat) : Int)))) (by kernel_rfl) SC.out (fun hHeld => ?_)
          refine wpAnyH_take (i := 0) (oi := _) (v := ?_) rfl (by kernel_rfl) (by kernel_rfl) (by kernel_rfl) (fun _ _ _ h => h) (Or.inl ⟨by rfl, ?_⟩) (by assumption) ?_
          rotate_left
          · intro W hSw
            (try dsimp only at hSw)
            go_simp
            rfl
          (try simp only [Act.put, List.getElem_toArray, List.getElem_cons_succ, List.getElem_cons_zero, List.setIfInBounds_toArray, List.set_cons_zero, List.set_cons_succ])
          refine wpAnyH_take (i := 1) (oi := _) (v := ?_) rfl (by kernel_rfl) (by kernel_rfl) (by kernel_rfl) (fun _ _ _ h => h) (Or.inl ⟨by rfl, ?_⟩) (by assumption) ?_
          rotate_left
          · intro W hSw
            (try dsimp only at hSw)
            go_simp
            rfl
          (try simp only [Act.put, List.getElem_toArray, List.getElem_cons_succ, List.getElem_cons_zero, List.setIfInBounds_toArray, List.set_cons_zero, List.set_cons_succ])
          refine wpAnyH_take (i := 2) (oi := _) (v := ?_) rfl (by kernel_rfl) (by kernel_rfl) (by kernel_rfl) (fun _ _ _ h => h) (Or.inl ⟨by rfl, ?_⟩) (by assumption) ?_
          rotate_left
          · intro W hSw
            (try dsimp only at hSw)
            go_simp
            rfl
          (try simp only [Act.put, List.getElem_toArray, List.getElem_cons_succ, List.getElem_cons_zero, List.setIfInBounds_toArray, List.set_cons_zero, List.set_cons_succ])
          refine wpAnyH_take (i := 3) (oi := _) (v := ?_) rfl (by kernel_rfl) (by kernel_rfl) (by kernel_rfl) (fun _ _ _ h => h) (Or.inl ⟨by rfl, ?_⟩) (by assumption) ?_
          rotate_left
          · intro W hSw
            (try dsimp only at hSw)
            go_simp
            rfl
          (try simp only [Act.put, List.getElem_toArray, List.getElem_cons_succ, List.getElem_cons_zero, List.setIfInBounds_toArray, List.set_cons_zero, List.set_cons_succ])
          refine wpAnyH_take (i := 4) (oi := _) (v := ?_) rfl (by kernel_rfl) (by kernel_rfl) (by kernel_rfl) (fun _ _ _ h => h) (Or.inl ⟨by rfl, ?_⟩) (by assumption) ?_
          rotate_left
          · intro W hSw
            (try dsimp only at hSw)
            go_simp
            rfl
          (try simp only [Act.put, List.getElem_toArray, List.getElem_cons_succ, List.getElem_cons_zero, List.setIfInBounds_toArray, List.set_cons_zero, List.set_cons_succ])
          refine wpAnyH_take (i := 5) (oi := _) (v := ?_) rfl (by kernel_rfl) (by kernel_rfl) (by kernel_rfl) (fun _ _ _ h => h) (Or.inl ⟨by rfl, ?_⟩) (by assumption) ?_
          rotate_left
          · intro W hSw
            (try dsimp only at hSw)
            go_simp
            rfl
          (try simp only [Act.put, List.getElem_toArray, List.getElem_cons_succ, List.getElem_cons_zero, List.setIfInBounds_toArray, List.set_cons_zero, List.set_cons_succ])
          refine wpAnyH_take (i := 6) (oi := _) (v := ?_) rfl (by kernel_rfl) (by kernel_rfl) (by kernel_rfl) (fun _ _ _ h => h) (Or.inl ⟨by rfl, ?_⟩) (by assumption) ?_
          rotate_left
          · intro W hSw
            (try dsimp only at hSw)
            go_simp
            rfl
          (try simp only [Act.put, List.getElem_toArray, List.getElem_cons_succ, List.getElem_cons_zero, List.setIfInBounds_toArray, List.set_cons_zero, List.set_cons_succ])
          refine wpAnyH_take (i := 7) (oi := _) (v := ?_) rfl (by kernel_rfl) (by kernel_rfl) (by kernel_rfl) (fun _ _ _ h => h) (Or.inl ⟨by rfl, ?_⟩) (by assumption) ?_
          rotate_left
          · intro W hSw
            (try dsimp only at hSw)
            go_simp
            rfl
          (try simp only [Act.put, List.getElem_toArray, List.getElem_cons_succ, List.getElem_cons_zero, List.setIfInBounds_toArray, List.set_cons_zero, List.set_cons_succ])
          refine wpAnyH_ready (rs := [8, 12]) (by kernel_rfl) (by simp) ?_
          refine AllReadyH.cons (o := _) rfl (fun K hK => ?_) ?_
          · go_simp
            refine (HCO.out wm.drew (HKM.out.disk.below (Below.refl _ _).drew) ((HG0.out.below' HBM.out hGB).below (Below.refl _ _).drew)).mono ?_
            rintro e wo ⟨o, rfl, hopo⟩
            obtain ⟨gl2, va2, vs2, rd2, rfl, hpre, hbo⟩ := (HKM.out.below (w' := wm.drew) (Below.refl _ _).drew).opened hopo (Nat.le_trans hB HBM.out.size)
            have HPo := Lib.hid hpre
            have HBo : Hid (Below B w wo) := HBM.out.trans ((Below.refl B wm).drew.trans hbo)
            have So : Hid (wo.cell? ⟨gx, 0, none⟩ = some (.pointer (some ⟨g2, 0, none⟩)) ∧ wo.cell? ⟨gx, 2, none⟩ = some (.int .i64 ((data + 2 : Nat) : Int))) := ⟨HPo.out.blk.cell 0, HPo.out.blk.cell 2⟩
            have hso := HBo.out.size
            unfold errA
            clear hopo hpre hbo
            go_wp2_with fail
            refine hK.out _ _ So.out (fun hHeldo => ?_)
            clear hK K
            (try simp only [Act.put, List.getElem_toArray, List.getElem_cons_succ, List.getElem_cons_zero, List.setIfInBounds_toArray, List.set_cons_zero, List.set_cons_succ])
            refine wpAnyH_take (i := 9) (oi := _) (v := ?_) rfl (by kernel_rfl) (by kernel_rfl) (by kernel_rfl) (fun _ _ _ h => h) (Or.inl ⟨by rfl, ?_⟩) (by assumption) ?_
            rotate_left
            · intro W hSw
              (try dsimp only at hSw)
              go_simp
              rfl
            (try simp only [Act.put, List.getElem_toArray, List.getElem_cons_succ, List.getElem_cons_zero, List.setIfInBounds_toArray, List.set_cons_zero, List.set_cons_succ])
            refine wpAnyH_take (i := 10) (oi := _) (v := ?_) rfl (by kernel_rfl) (by kernel_rfl) (by kernel_rfl) (fun _ _ _ h => h) (Or.inl ⟨by rfl, ?_⟩) (by assumption) ?_
            rotate_left
            · intro W hSw
              (try dsimp only at hSw)
              go_simp
              rfl
            (try simp only [Act.put, List.getElem_toArray, List.getElem_cons_succ, List.getElem_cons_zero, List.setIfInBounds_toArray, List.set_cons_zero, List.set_cons_succ])
            refine wpAnyH_take (i := 11) (oi := _) (v := ?_) rfl (by kernel_rfl) (by kernel_rfl) (by kernel_rfl) (fun _ _ _ h => h) (Or.inl ⟨by rfl, ?_⟩) (by assumption) ?_
            rotate_left
            · intro W hSw
              (try dsimp only at hSw)
              go_simp
              rfl
            (try simp only [Act.put, List.getElem_toArray, List.getElem_cons_succ, List.getElem_cons_zero, List.setIfInBounds_toArray, List.set_cons_zero, List.set_cons_succ])
            refine wpAnyH_ready (rs := [12]) (by kernel_rfl) (by simp) ?_
            refine AllReadyH.cons (o := _) rfl (fun K hK => ?_) AllReadyH.nil
            go_simp
            obtain ⟨wp, hwp⟩ : ∃ wp, wo.alloc (.cells #[.int .i64 0, .string ⟨#[]⟩, .bool false] 27) = wp := ⟨_, rfl⟩
            have hbp : Below wo.heap.size wo wp := by rw [← hwp]; exact (Below.refl _ _).alloc (Nat.le_refl _) _
            have Bp : Blk wp wo.heap.size 27 [.int .i64 0, .string ⟨#[]⟩, .bool false] := by rw [← hwp]; exact Blk.new wo 27 _
            have HPp := Lib.hid (HPo.out.below hbp)
            have HBp : Hid (Below B w wp) := HBo.out.trans (hbp.mono (Nat.le_trans hB hso))
            have Sp : Hid (wp.cell? ⟨gx, 0, none⟩ = some (.pointer (some ⟨g2, 0, none⟩)) ∧ wp.cell? ⟨gx, 2, none⟩ = some (.int .i64 ((data + 2 : Nat) : Int))) := ⟨HPp.out.blk.cell 0, HPp.out.blk.cell 2⟩
            obtain ⟨e0, e1, e2, f0, f1, f2⟩ := facts3 Bp
            have HEp := Lib.hid Bp
            clear hbp Bp
            rw [hwp]
            refine hK.out _ _ Sp.out (fun hHeldp => ?_)
            clear hK K
            (try simp only [Act.put, List.getElem_toArray, List.getElem_cons_succ, List.getElem_cons_zero, List.setIfInBounds_toArray, List.set_cons_zero, List.set_cons_succ])
            refine wpAnyH_take (i := 13) (oi := _) (v := ?_) rfl (by kernel_rfl) (by kernel_rfl) (by kernel_rfl) (fun _ _ _ h => h) (Or.inl ⟨by rfl, ?_⟩) (by assumption) ?_
            rotate_left
            · intro W hSw
              (try dsimp only at hSw)
              go_simp
              rfl
            (try simp only [Act.put, List.getElem_toArray, List.getElem_cons_succ, List.getElem_cons_zero, List.setIfInBounds_toArray, List.set_cons_zero, List.set_cons_succ])
            refine wpAnyH_ready (rs := [14]) (by kernel_rfl) (by simp) ?_
            refine AllReadyH.cons (o := _) rfl (fun K hK => ?_) AllReadyH.nil
            go_simp
            have HB5 : Hid (Below B w (set3 wp wo.heap.size 0)) := by
              have h1 : B ≤ wo.heap.size := Nat.le_trans hB hso
              exact ((HBp.out.setCell (p := ⟨wo.heap.size, 0, none⟩) h1 _).setCell (p := ⟨wo.heap.size, 1, none⟩) h1 _).setCell (p := ⟨wo.heap.size, 2, none⟩) h1 _
            have HP5 := Lib.hid (HPp.out.setErr HEp.out 0)
            have HE5 : Hid (Blk (set3 wp wo.heap.size 0) wo.heap.size 27 [.int .i64 0, .string ⟨#[]⟩, .bool true]) := HEp.out.set3 _ _ _
            refine hK.out _ _ ⟨HP5.out.blk.cell 0, HP5.out.blk.cell 2⟩ (fun _ => ?_)
            refine wpAnyH_done (by kernel_rfl) ?_ _
            clear hK K hHeld hHeldo hHeldp
            go_wp2_with fail
            go_meet
            case rel => exact ⟨gl2, _, va2, vs2, rd2, rfl, rfl, HE5, HP5, HB5⟩
          · refine AllReadyH.cons (o := _) rfl (fun K hK => ?_) AllReadyH.nil
            go_simp
            obtain ⟨wo, hwo⟩ : ∃ wo, (wm.alloc (.cells #[.int .i64 0, .string ⟨#[]⟩, .bool false] 27)).drew = wo := ⟨_, rfl⟩
            have hbo : Below wm.heap.size wm wo := by rw [← hwo]; exact Below.drew ((Below.refl _ _).alloc (Nat.le_refl _) _)
            have Bo : Blk wo wm.heap.size 27 [.int .i64 0, .string ⟨#[]⟩, .bool false] := by rw [← hwo]; exact Blk.new wm 27 _
            have HKo := Lib.hid (HKM.out.below hbo)
            have HBo : Hid (Below B w wo) := HBM.out.trans (hbo.mono (Nat.le_trans hB HBM.out.size))
            have HEo := Lib.hid Bo
            have hsm := HBM.out.size
            have hso := HBo.out.size
            have So : Hid (wo.cell? ⟨gx, 0, none⟩ = some (.pointer (some ⟨g2, 0, none⟩)) ∧ wo.cell? ⟨gx, 2, none⟩ = some (.int .i64 ((data + 2 : Nat) : Int))) := ⟨HKo.out.blk.cell 0, HKo.out.blk.cell 2⟩
            rw [hwo]
            clear hbo Bo hwo
            refine hK.out _ _ So.out (fun hHeldo => ?_)
            clear hK K
            (try simp only [Act.put, List.getElem_toArray, List.getElem_cons_succ, List.getElem_cons_zero, List.setIfInBounds_toArray, List.set_cons_zero, List.set_cons_succ])
            refine wpAnyH_ready (rs := [8]) (by kernel_rfl) (by simp) ?_
            refine AllReadyH.cons (o := _) rfl (fun K hK => ?_) AllReadyH.nil
            go_simp
            refine (HCO.out wo HKo.out.disk (HG0.out.below' HBo.out hGB)).mono ?_
            rintro e wp ⟨o, rfl, hopo⟩
            have hep : Blk wp wm.heap.size 27 [.int .i64 0, .string ⟨#[]⟩, .bool false] := by
              obtain ⟨_, _, _, _, _, _, _, _, hon⟩ := hopo
              exact hon.blk_ HKo.out.disk.kinds HEo.out (by decide)
            obtain ⟨gl2, va2, vs2, rd2, rfl, hpre, hbp⟩ := HKo.out.opened hopo (Nat.le_trans hB hso)
            have HEp := Lib.hid hep
            have HPp := Lib.hid hpre
            have HBp : Hid (Below B w wp) := HBo.out.trans hbp
            have Sp : Hid (wp.cell? ⟨gx, 0, none⟩ = some (.pointer (some ⟨g2, 0, none⟩)) ∧ wp.cell? ⟨gx, 2, none⟩ = some (.int .i64 ((data + 2 : Nat) : Int))) := ⟨HPp.out.blk.cell 0, HPp.out.blk.cell 2⟩
            obtain ⟨e0, e1, e2, f0, f1, f2⟩ := facts3 HEp.out
            unfold errA
            clear hopo hep hpre hbp
            go_wp2_with fail
            refine hK.out _ _ Sp.out (fun hHeldp => ?_)
            clear hK K
            (try simp only [Act.put, List.getElem_toArray, List.getElem_cons_succ, List.getElem_cons_zero, List.setIfInBounds_toArray, List.set_cons_zero, List.set_cons_succ])
            refine wpAnyH_take (i := 9) (oi := _) (v := ?_) rfl (by kernel_rfl) (by kernel_rfl) (by kernel_rfl) (fun _ _ _ h => h) (Or.inl ⟨by rfl, ?_⟩) (by assumption) ?_
            rotate_left
            · intro W hSw
              (try dsimp only at hSw)
              go_simp
              rfl
            (try simp only [Act.put, List.getElem_toArray, List.getElem_cons_succ, List.getElem_cons_zero, List.setIfInBounds_toArray, List.set_cons_zero, List.set_cons_succ])
            refine wpAnyH_take (i := 10) (oi := _) (v := ?_) rfl (by kernel_rfl) (by kernel_rfl) (by kernel_rfl) (fun _ _ _ h => h) (Or.inl ⟨by rfl, ?_⟩) (by assumption) ?_
            rotate_left
            · intro W hSw
              (try dsimp only at hSw)
              go_simp
              rfl
            (try simp only [Act.put, List.getElem_toArray, List.getElem_cons_succ, List.getElem_cons_zero, List.setIfInBounds_toArray, List.set_cons_zero, List.set_cons_succ])
            refine wpAnyH_take (i := 11) (oi := _) (v := ?_) rfl (by kernel_rfl) (by kernel_rfl) (by kernel_rfl) (fun _ _ _ h => h) (Or.inl ⟨by rfl, ?_⟩) (by assumption) ?_
            rotate_left
            · intro W hSw
              (try dsimp only at hSw)
              go_simp
              rfl
            (try simp only [Act.put, List.getElem_toArray, List.getElem_cons_succ, List.getElem_cons_zero, List.setIfInBounds_toArray, List.set_cons_zero, List.set_cons_succ])
            refine wpAnyH_take (i := 13) (oi := _) (v := ?_) rfl (by kernel_rfl) (by kernel_rfl) (by kernel_rfl) (fun _ _ _ h => h) (Or.inl ⟨by rfl, ?_⟩) (by assumption) ?_
            rotate_left
            · intro W hSw
              (try dsimp only at hSw)
              go_simp
              rfl
            (try simp only [Act.put, List.getElem_toArray, List.getElem_cons_succ, List.getElem_cons_zero, List.setIfInBounds_toArray, List.set_cons_zero, List.set_cons_succ])
            refine wpAnyH_ready (rs := [14]) (by kernel_rfl) (by simp) ?_
            refine AllReadyH.cons (o := _) rfl (fun K hK => ?_) AllReadyH.nil
            go_simp
            have HB5 : Hid (Below B w (set3 wp wm.heap.size 0)) := by
              have h1 : B ≤ wm.heap.size := Nat.le_trans hB hsm
              exact ((HBp.out.setCell (p := ⟨wm.heap.size, 0, none⟩) h1 _).setCell (p := ⟨wm.heap.size, 1, none⟩) h1 _).setCell (p := ⟨wm.heap.size, 2, none⟩) h1 _
            have HP5 := Lib.hid (HPp.out.setErr HEp.out 0)
            have HE5 : Hid (Blk (set3 wp wm.heap.size 0) wm.heap.size 27 [.int .i64 0, .string ⟨#[]⟩, .bool true]) := HEp.out.set3 _ _ _
            refine hK.out _ _ ⟨HP5.out.blk.cell 0, HP5.out.blk.cell 2⟩ (fun _ => ?_)
            refine wpAnyH_done (by kernel_rfl) ?_ _
            clear hK K hHeld hHeldo hHeldp
            go_wp2_with fail
            go_meet
            case rel => exact ⟨gl2, _, va2, vs2, rd2, rfl, rfl, HE5, HP5, HB5⟩
        case rest =>
          obtain ⟨gl2, b2, va2, vs2, rd2, rfl, rfl, HE, HP, HBB⟩ := hcut
          obtain ⟨x0, x1, x2, x3, x4, x5, x6, y0, y1, y2, y3, y4, y5, y6⟩ := facts7 HP.out.blk
          obtain ⟨z0, z1, z2, _, _, _⟩ := facts3 HE.out
          have q3 := fine_any 0 wc
          unfold errA at q3
          have Q3 := Lib.hid q3
          clear q3
          go_wp2_with fail
          refine Q3.out.mono ?_
          rintro e w6 ⟨rfl, hb6⟩
          have HP6 := Lib.hid (HP.out.below hb6)
          have HB6 : Hid (Below B w w6) := HBB.out.trans (hb6.mono (Nat.le_trans hB HBB.out.size))
          clear hb6 z0 z1 z2 x0 x1 x2 x3 x4 x5 x6 y0 y1 y2 y3 y4 y5 y6
          obtain ⟨x0, x1, x2, x3, x4, x5, x6, y0, y1, y2, y3, y4, y5, y6⟩ := facts7 HP6.out.blk
          obtain ⟨w7, hw7⟩ : ∃ w7, w6.setCell ⟨gx, 1, none⟩ (.pointer (some ⟨gl2, 0, none⟩)) = w7 := ⟨_, rfl⟩
          have HM7 : Hid (KMem B w7 gx g2 gl2 (data + 2) v2 va2 vall vs2 d5 rd2 l5 ss safe rs bad) := by rw [← hw7]; exact HP6.out.taken
          have HB7 : Hid (Below B w w7) := by rw [← hw7]; exact HB6.out.setCell (p := ⟨gx, 1, none⟩) HP6.out.low.1 _
          have hcn : al.length ≤ data := by
            rcases HOK5.out.count with h | h
            · rw [← HAL5.out]; exact h.1
            · cases h
          have HALL := Lib.hid (all_any gl2 g2 v2 va2 vs2 d5 rd2 l5 w7 HM7.out.log (by rw [HAL5.out]; omega) (fun x hx => (HOK5.out.small x hx).2))
          go_wp2_with fail
          refine HALL.out.mono ?_
          rintro e w8 ⟨vo, vs8, rfl, hout, hb8⟩
          rw [HAL5.out] at hout
          obtain ⟨Ao, capo, rfl, _, _, _⟩ := own_src hout.own
          have HOUT := Lib.hid hout
          have HM8 := Lib.hid (HM7.out.below hb8)
          have HB8 : Hid (Below B w w8) := HB7.out.trans (hb8.mono (Nat.le_trans hB HB7.out.size))
          obtain ⟨N, hN⟩ : ∃ N, al.length = N := ⟨_, rfl⟩
          have HN := Lib.hid hN
          rw [hN] at hcn
          clear hout hb8 x0 x1 x2 x3 x4 x5 x6 y0 y1 y2 y3 y4 y5 y6
          obtain ⟨x0, x1, x2, x3, x4, x5, x6, y0, y1, y2, y3, y4, y5, y6⟩ := facts7 HM8.out.blk
          rw [hN]
          clear hN
          go_upto_region 27 with fail
          go_cut [151] from 143 (fun s151 wx => ∃ bb : Bool, s151 = .bool bb ∧ Hid (bb = (rs && decide (N = 0))) ∧ w8 = wx)
          case first =>
            cases rs with
            | false =>
              go_wp2_with fail
              go_meet
              case rel => exact ⟨false, rfl, rfl, rfl⟩
            | true =>
              by_cases hn0 : N = 0
              · subst hn0
                go_wp2_with fail
                go_meet
                case rel => exact ⟨true, rfl, by simp [Hid], rfl⟩
              · have hn1 : ¬ ((N : Nat) : Int) = 0 := by omega
                have hn2 : (((N : Nat) : Int) == 0) = false := beq_eq_false_iff_ne.2 hn1
                go_wp2_with fail
                go_meet
                case rel => exact ⟨false, rfl, by simp [Hid, hn0], rfl⟩
          case rest =>
            obtain ⟨bb, rfl, HBBB, rfl⟩ := hcut
            go_upto_if 151 with fail
            go_cut [] from 152 (fun wx => ∃ vall' ss', Hid (KMem B wx gx g2 gl2 (data + 2) v2 va2 vall' vs2 d5 rd2 l5 ss' safe rs bad) ∧ Hid (al = (bl ss').take N ∧ N ≤ ss'.length ∧ (safe ≤ N ∨ ss' = [])) ∧ Hid (OutAt wx w7.heap.size (.slice Ao N capo) vs8 al) ∧ Hid (Below B w wx))
            case first =>
              cases bb with
              | false =>
                go_wp2_with fail
                go_meet
                case rel =>
                  refine ⟨vall, ss, HM8.out, ?_, by rw [← HN.out]; exact HOUT.out, HB8.out⟩
                  have hb := HBBB.out
                  have hn := HN.out
                  rcases HAL.out with ⟨j, h1, h2, h3⟩ | ⟨h1, h2⟩
                  · have hl := bl_length ss
                    have hj : j = N := by rw [← hn, h1, List.length_take]; omega
                    subst hj
                    exact ⟨h1, by omega, .inl h2⟩
                  · rw [h1, ← hn, h2] at hb
                    simp at hb
              | true =>
                go_wp2_with fail
                go_meet
                case rel =>
                  have hb := HBBB.out
                  have hn := HN.out
                  simp at hb
                  have hal : al = [] := List.eq_nil_of_length_eq_zero (by rw [hn]; exact hb.2)
                  have ho : Only (· = gx) w8 (w8.setCell ⟨gx, 3, none⟩ (.slice none 0 0)) := (Only.refl (· = gx) w8).setCell (p := ⟨gx, 3, none⟩) (.inl rfl) _
                  refine ⟨_, [], HM8.out.setAll (ss' := []) (World.ownsRow_nil _ _ _ _), ⟨by rw [hal]; simp [bl], by omega, .inr rfl⟩, ?_, HB8.out.setCell (p := ⟨gx, 3, none⟩) HM8.out.low.1 _⟩
                  rw [← hn]
                  exact HOUT.out.onlyX ho HM8.out.blk.typ
            case rest =>
              obtain ⟨vall', ss', HM9, HSS, HO9, HB9⟩ := hcut
              obtain ⟨Al, capl, rfl, _, _, _⟩ := own_src HM9.out.all
              clear x0 x1 x2 x3 x4 x5 x6 y0 y1 y2 y3 y4 y5 y6
              obtain ⟨x0, x1, x2, x3, x4, x5, x6, y0, y1, y2, y3, y4, y5, y6⟩ := facts7 HM9.out.blk
              go_upto_region 31 with fail
              obtain ⟨w10, hw10⟩ : ∃ w10, (wc.setCell ⟨gx, 5, none⟩ (.bool false)).setCell ⟨gx, 6, none⟩ (.bool false) = w10 := ⟨_, rfl⟩
              rw [hw10]
              have HM10 : Hid (KMem B w10 gx g2 gl2 (data + 2) v2 va2 (.slice Al ss'.length capl) vs2 d5 rd2 l5 ss' safe false false) := by rw [← hw10]; exact (HM9.out.setRs false).setBad false
              have HB10 : Hid (Below B w w10) := by rw [← hw10]; exact (HB9.out.setCell (p := ⟨gx, 5, none⟩) HM9.out.low.1 _).setCell (p := ⟨gx, 6, none⟩) HM9.out.low.1 _
              have HO10 : Hid (OutAt w10 w7.heap.size (.slice Ao N capo) vs8 al) := by
                have ho : Only (· = gx) wc w10 := by rw [← hw10]; exact ((Only.refl (· = gx) wc).setCell (p := ⟨gx, 5, none⟩) (.inl rfl) _).setCell (p := ⟨gx, 6, none⟩) (.inl rfl) _
                have h1 := HO9.out
                rw [← HN.out] at h1 ⊢
                exact h1.onlyX ho HM9.out.blk.typ
              clear x0 x1 x2 x3 x4 x5 x6 y0 y1 y2 y3 y4 y5 y6 hw10
              obtain ⟨x0, x1, x2, x3, x4, x5, x6, y0, y1, y2, y3, y4, y5, y6⟩ := facts7 HM10.out.blk
              go_cut [185] from 161 (fun s185 wx => s185 = .bool false ∧ w10 = wx)
              case first =>
                obtain ⟨hs1, hs2, hs3⟩ := HSS.out
                have p1 : ¬ ((ss'.length : Nat) : Int) < ((N : Nat) : Int) := by omega
                have p2 : decide (((ss'.length : Nat) : Int) < ((N : Nat) : Int)) = false := by simpa using p1
                rcases hs3 with hs3 | hs3
                · have p3 : ¬ ((N : Nat) : Int) < ((safe : Nat) : Int) := by omega
                  have p4 : decide (((N : Nat) : Int) < ((safe : Nat) : Int)) = false := by simpa using p3
                  clear hs1 hs2 hs3
                  go_wp2_with fail
                  go_meet
                  case rel => exact ⟨rfl, rfl⟩
                · subst hs3
                  have hn0 : N = 0 := by simpa using hs2
                  subst hn0
                  by_cases hsf : 0 < safe
                  · have p3 : (0 : Int) < ((safe : Nat) : Int) := by omega
                    have p4 : decide ((0 : Int) < ((safe : Nat) : Int)) = true := by simpa using hsf
                    clear hs1 hs2
                    go_wp2_with fail
                    go_meet
                    case rel => exact ⟨rfl, rfl⟩
                  · have p3 : ¬ (0 : Int) < ((safe : Nat) : Int) := by omega
                    have p4 : decide ((0 : Int) < ((safe : Nat) : Int)) = false := by simpa using p3
                    clear hs1 hs2
                    go_wp2_with fail
                    go_meet
                    case rel => exact ⟨rfl, rfl⟩
              case rest =>
                obtain ⟨rfl, rfl⟩ := hcut
                go_wp2_with fail
                go_loopw [21] (fun i W => ∃ (k : Nat), k ≤ N ∧ i = .int .i64 (k : Int) ∧ Hid (Below w10.heap.size w10 W)) (fun i _ => N - (intOf i).toNat)
                case atStart => exact ⟨0, Nat.zero_le _, rfl, Below.refl _ _⟩
                case round =>
                  obtain ⟨kk, hkk, rfl, HBR2⟩ := hrel
                  have HMR := Lib.hid (HM10.out.below HBR2.out)
                  clear x0 x1 x2 x3 x4 x5 x6 y0 y1 y2 y3 y4 y5 y6
                  obtain ⟨x0, x1, x2, x3, x4, x5, x6, y0, y1, y2, y3, y4, y5, y6⟩ := facts7 HMR.out.blk
                  by_cases hkn : kk < N
                  · obtain ⟨hs1, hs2, _⟩ := HSS.out
                    have hOR := HO10.out.below HBR2.out
                    have hln := HN.out
                    obtain ⟨u, hu⟩ : ∃ u, vs8[kk]? = some u := ⟨_, List.getElem?_eq_getElem (by rw [hOR.length, hln]; exact hkn)⟩
                    obtain ⟨x, hx⟩ : ∃ x, al[kk]? = some x := ⟨_, List.getElem?_eq_getElem (by rw [hln]; exact hkn)⟩
                    obtain ⟨s, hs⟩ : ∃ s, ss'[kk]? = some s := ⟨_, List.getElem?_eq_getElem (by omega)⟩
                    have hsx : s.data.toList = x := by
                      have h1 : al[kk]? = some s.data.toList := by rw [hs1, List.getElem?_take, if_pos hkn]; simp [bl, hs]
                      rw [hx] at h1
                      exact (Option.some.inj h1).symm
                    have hru := hOR.each kk u x hu hx
                    have hxl : 1 ≤ x.length := (HOK5.out.small x (by rw [HAL5.out]; exact List.mem_of_getElem? hx)).1
                    obtain ⟨gu, capu, rfl, _, _⟩ := own_addr hru (by omega)
                    have hrow := hOR.own
                    rw [hln] at hrow
                    obtain ⟨go, capo', e0, _, _⟩ := own_addr hrow (by omega)
                    injection e0 with e1 e2 e3
                    subst e1 e3
                    have cU := own_at hrow kk _ hu
                    have hal := HMR.out.all
                    obtain ⟨ga, capa', e4, _, _⟩ := own_addr hal (by omega)
                    injection e4 with e5 e6 e7
                    subst e5 e7
                    have cS := own_at hal kk (.string s) (by simp [sv, hs])
                    have hcv : ∀ n, (convert 23 9 (.slice (some ⟨gu, 0, none⟩) x.length capu)).run Tryd.prog (wr.drewN n) = .ok (.string s) (wr.drewN n) := by
                      intro n
                      have := run_tostr (wr.drewN n) (some ⟨gu, 0, none⟩) x capu (own_bytes (own_below hru (below_drewN (Below.refl _ _) n)))
                      rw [this, ← hsx]
                      rfl
                    have q1 : ((kk : Nat) : Int) < ((N : Nat) : Int) := by omega
                    have q2 : ((kk : Nat) : Int) < ((ss'.length : Nat) : Int) := by omega
                    clear hu hx hs hru hal hOR hrow hs1 hsx
                    go_wp2_with fail
                    go_quiet (fail)
                    go_wp2_with fail
                    exact ⟨⟨kk + 1, by omega, by go_num, HBR2.out.trans ((below_drewN (Below.refl _ _) _).mono HBR2.out.size)⟩, by simp [intOf]; omega⟩
                  · obtain rfl : kk = N := by omega
                    have hN2 := HSS.out.2.1
                    go_wp2_with fail
                    go_ret
                    have htk := own_take HMR.out.all hN2
                    have hsv : (sv ss').take kk = sv (ss'.take kk) := by simp [sv]
                    have hlen : (ss'.take kk).length = kk := by rw [List.length_take]; omega
                    rw [hsv] at htk
                    have hbl : bl (ss'.take kk) = al := by rw [HSS.out.1]; simp [bl]
                    have hok := HOK5.out
                    rw [HN.out, ← hbl] at hok
                    refine ⟨rfl, ⟨g2, gl2, v2, va2, .slice Al kk capl, vs2, d5, rd2, l5, ss'.take kk, kk, false, false, (HMR.out.setAll (ss' := ss'.take kk) (by rw [hlen]; exact htk)).setSafe kk, hok, by have := HEP5.out; have := HEE.out; omega⟩, ?_⟩
                    exact ((HB10.out.trans (HBR2.out.mono (Nat.le_trans hB HB10.out.size))).setCell (p := ⟨gx, 3, none⟩) HMR.out.low.1 _).setCell (p := ⟨gx, 4, none⟩) HMR.out.low.1 _
end Go.Proofs.YtljmklohgpaopaaDoor
