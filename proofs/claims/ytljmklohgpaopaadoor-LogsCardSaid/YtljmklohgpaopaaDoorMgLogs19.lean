/- The walks of the disk's New, Copy. The walk of the harness's same. -/
import Derived.Test.YtljmklohgpaopaaDoorMgLogs9
import Derived.Test.YtljmklohgpaopaaDoorMgLogs12
import Derived.Lib.AppendStr
import Derived.Test.YtljmklohgpaopaaDoorMgLogs18

namespace Go.Proofs.YtljmklohgpaopaaDoor
open Go.RowKit

theorem Tryd.infoSector : (Tryd.prog.info? 92).map (fun i => (i.zero, i.size, i.bytes)) = some (some (.agg #[.string ⟨#[]⟩, .string ⟨#[]⟩, .bool false, .bool false, .bool false]), 5, 40) := by kernel_rfl
theorem sector_room {n m : Nat} (h : n + m ≤ 4398046511104) : ∀ old, old < n + m → Builtin.nextslicecap (n + m) old * 40 ≤ 281474976710656 := by
  intro old ho
  have := nextslicecap_le54 ho
  omega
theorem secsCells_one (l : List Pl.Sec) : ∀ u ∈ secsCells l, u.oneCell' = true := by
  intro u hu
  unfold secsCells at hu
  rw [List.mem_flatMap] at hu
  obtain ⟨s, _, hs⟩ := hu
  simp only [secCells, List.mem_cons, List.not_mem_nil, or_false] at hs
  rcases hs with rfl | rfl | rfl | rfl | rfl <;> rfl

set_option maxHeartbeats 1000000 in
set_option maxRecDepth 100000 in
theorem copy_any (g : Nat) (v : Value) (d : Pl.Dk) (rd : Int) (w : World) (h : DiskAt w g v d rd) :
    Calls Tryd.prog 43 #[.pointer (some ⟨g, 0, none⟩)] w fun e w' => ∃ g' v', e = .returned (.pointer (some ⟨g', 0, none⟩)) ∧ DiskAt w' g' v' d rd ∧ Below w.heap.size w w' ∧ ∀ k, dF g' v' k → w.heap.size ≤ k := by
  have hm := h.most
  obtain ⟨wr, sy, hb⟩ := h.blk
  obtain ⟨c0, c1, c2, c3, c4, f0, f1, f2, f3, f4⟩ := facts5 hb
  obtain ⟨A, cap, rfl, hc, hs, _⟩ := own_src h.own
  have H := Lib.hid h
  obtain ⟨i0, hi, hz0, hz1, hz2⟩ := info_parts Tryd.infoSector
  have HI := Lib.hid (And.intro hi (And.intro hz0 (And.intro hz1 hz2)))
  obtain ⟨w1, hw1⟩ : ∃ w1, w.alloc (.cells #[.slice A d.secs.length cap, .int .i64 d.life, .int .i64 rd, .int .i64 wr, .int .i64 sy] 90) = w1 := ⟨_, rfl⟩
  have hb1 : Below w.heap.size w w1 := by rw [← hw1]; exact (Below.refl _ _).alloc (Nat.le_refl _) _
  have B1 : Blk w1 w.heap.size 90 [.slice A d.secs.length cap, .int .i64 d.life, .int .i64 rd, .int .i64 wr, .int .i64 sy] := by rw [← hw1]; exact Blk.new w 90 _
  obtain ⟨k0, _, _, _, _, _⟩ := facts5 (hb.below hb1 hb.lt)
  obtain ⟨e0, e1, e2, e3, e4, q0, q1, q2, q3, q4⟩ := facts5 B1
  have HB1 := Lib.hid hb1
  have HBK := Lib.hid B1
  have HS1 := Lib.hid (hs.below hb1)
  have h63 : Hid (0 + d.secs.length ≤ maxLen) := by rw [Hid]; simp only [maxLen]; omega
  have hroom := Lib.hid (sector_room (n := 0) (m := d.secs.length) (by omega))
  have hs1 := hb1.size
  clear h hi hz0 hz1 hz2 hb hs hb1 B1
  go_enter Tryd.func43, Tryd.ntmps43
  go_wp2_with (at_builtin
               refine wpList_append_src _ rfl (.const (.slice none 0 0)) (.tmp 10) 88 rfl w1.heap.size 92 i0 _ 5 40 Tryd.underlying88 HI.out.1 HI.out.2.1 HI.out.2.2.1 HI.out.2.2.2 rfl (by decide) (.slice none 0 0) 0 [] rfl (World.ownsRow_nil _ _ _ _) A d.secs.length cap (secsCells d.secs) rfl (secsCells_length _) HS1.out (secsCells_one _) h63.out hroom.out (Nat.le_refl _) ?_
               intro v2 w2 hown2 hgrow2 hat2
               rw [Nat.zero_add, List.nil_append] at hown2
               obtain ⟨A2, cap2, rfl, _, _, _⟩ := own_src hown2
               have hb2 : Below w1.heap.size w1 w2 := ⟨hgrow2.os, hgrow2.tape, hgrow2.output, hgrow2.size, fun x hx => hgrow2.block x hx (fun e => by cases e)⟩
               have HB2 := Lib.hid hb2
               have HO2 := Lib.hid hown2
               have HBK2 := Lib.hid (HBK.out.below hb2 HBK.out.lt)
               obtain ⟨x0, _, _, _, _, y0, _, _, _, _⟩ := facts5 HBK2.out
               clear hown2 hgrow2 hat2 hb2)
  go_ret
  have hlt : w.heap.size < w1.heap.size := HBK.out.lt
  have hfar : ∀ x, (Value.slice A2 d.secs.length cap2).ownBlock = some x → w1.heap.size ≤ x := fun x hx => (HO2.out.lt x hx).1
  have hne : ∀ x, (Value.slice A2 d.secs.length cap2).ownBlock = some x → x ≠ w.heap.size := fun x hx => by have := hfar x hx; omega
  refine ⟨w.heap.size, _, rfl, ⟨hm, H.out.sized, H.out.life, fun e => hne _ e rfl, ?_, wr, sy, HBK2.out.set_ 0 _⟩, (HB1.out.trans (HB2.out.mono hs1)).setCell (p := ⟨w.heap.size, 0, none⟩) (Nat.le_refl _) _, ?_⟩
  · exact Only.own ((Only.refl (· = w.heap.size) w2).setCell (p := ⟨w.heap.size, 0, none⟩) (.inl rfl) _) (own_low HO2.out (Nat.zero_le _)) (fun k hk e => hne k hk e)
  · rintro k (rfl | hk)
    · exact Nat.le_refl _
    · exact Nat.le_trans hs1 (hfar k hk)

theorem new_secs (m : Nat) : secsCells (List.replicate (m + 1) Pl.Sec.empty) = secsCells (List.replicate m Pl.Sec.empty) ++ secCells Pl.Sec.empty := by
  rw [List.replicate_succ', secsCells_append]
  simp [secsCells]
theorem most_le (n : Int) : Pl.most n ≤ 4096 := by
  unfold Pl.most
  by_cases h : n < 0
  · rw [if_pos h]; omega
  · rw [if_neg h]
    by_cases h' : 4096 < n
    · rw [if_pos h']; omega
    · rw [if_neg h']; omega
/-- A disk that is being made. -/
structure NewAt (w : World) (g : Nat) (v : Value) (k : Nat) : Prop where
  far : v.ownBlock ≠ some g
  own : w.ownsRow (g + 1) 92 5 v k (secsCells (List.replicate k Pl.Sec.empty))
  blk : Blk w g 90 [v, .int .i64 (-1), .int .i64 0, .int .i64 0, .int .i64 0]

set_option maxHeartbeats 2000000 in
set_option maxRecDepth 100000 in
theorem new_any (n : Int) (w : World) :
    Calls Tryd.prog 14 #[.int .i64 n] w fun e w' => ∃ v', e = .returned (.pointer (some ⟨w.heap.size, 0, none⟩)) ∧ DiskAt w' w.heap.size v' (Pl.Dk.new n) 0 ∧ Below w.heap.size w w' ∧ ∀ k, dF w.heap.size v' k → w.heap.size ≤ k := by
  have hmk := make_bytes 256 256 (by omega) (by omega)
  obtain ⟨w1, hw1⟩ : ∃ w1, w.alloc (.cells #[.slice none 0 0, .int .i64 (-1), .int .i64 0, .int .i64 0, .int .i64 0] 90) = w1 := ⟨_, rfl⟩
  have hb1 : Below w.heap.size w w1 := by rw [← hw1]; exact (Below.refl _ _).alloc (Nat.le_refl _) _
  have B1 : Blk w1 w.heap.size 90 [.slice none 0 0, .int .i64 (-1), .int .i64 0, .int .i64 0, .int .i64 0] := by rw [← hw1]; exact Blk.new w 90 _
  have hsz1 : w1.heap.size = w.heap.size + 1 := by rw [← hw1]; simp
  have HB1 := Lib.hid hb1
  have HBK := Lib.hid B1
  obtain ⟨w2, hw2⟩ : ∃ w2, w1.alloc (.cells (zrow 256).toArray 5) = w2 := ⟨_, rfl⟩
  have hb2 : Below w1.heap.size w1 w2 := by rw [← hw2]; exact (Below.refl _ _).alloc (Nat.le_refl _) _
  have hcv : (convert 23 9 (.slice (some ⟨w1.heap.size, 0, none⟩) 256 256)).run Tryd.prog w2 = .ok (.string (tstr (Pl.zeros 256))) w2 := by
    rw [← hw2]
    have := run_tostr (w1.alloc (.cells (zrow 256).toArray 5)) (some ⟨w1.heap.size, 0, none⟩) (List.replicate 256 0) 256 (zeros_at _ _)
    rw [List.length_replicate] at this
    exact this
  have HB2 := Lib.hid hb2
  have hs2 := hb2.size
  obtain ⟨Z, hZ⟩ : ∃ Z, tstr (Pl.zeros 256) = Z := ⟨_, rfl⟩
  rw [hZ, hsz1] at hcv
  have HZ := Lib.hid hZ
  obtain ⟨i0, hi, hz0, hz1, hz2⟩ := info_parts Tryd.infoSector
  have HI := Lib.hid (And.intro hi (And.intro hz0 (And.intro hz1 hz2)))
  clear hi hz0 hz1 hz2 hb1 hb2 B1 hZ
  by_cases h1 : n < 0
  · have HM : Hid (Pl.most n = 0) := by unfold Pl.most; rw [Hid, if_pos h1]
    go_enter Tryd.func14, Tryd.ntmps14
    go_wp2_with fail
    go_loopw [5] (fun i W => ∃ (k : Nat) (v : Value), k ≤ 0 ∧ i = .int .i64 (k : Int) ∧ Hid (NewAt W w.heap.size v k) ∧ Hid (Below w.heap.size w W)) (fun i _ => 0 - (intOf i).toNat)
    case atStart =>
      refine ⟨0, .slice none 0 0, Nat.zero_le _, rfl, ⟨(fun e => by cases e), World.ownsRow_nil _ _ _ _, HBK.out.below HB2.out HBK.out.lt⟩, HB1.out.trans (HB2.out.mono HB1.out.size)⟩
    case round =>
      obtain ⟨k, v, hk, rfl, HN, HB⟩ := hrel
      obtain ⟨A, cap, rfl, _, _, _⟩ := own_src HN.out.own
      obtain ⟨c0, c1, c2, c3, c4, f0, f1, f2, f3, f4⟩ := facts5 HN.out.blk
      have hgl := HN.out.blk.lt
      by_cases hkm : k < 0
      · exact absurd hkm (by omega)
      · obtain rfl : k = 0 := by omega
        go_wp2_with fail
        go_ret
        refine ⟨_, rfl, ⟨?_, fun s hs => ?_, ⟨by show (-1 : Int) ≤ -1; omega, by show (-1 : Int) ≤ 9223372036854775807; omega⟩, HN.out.far, ?_, 0, 0, HN.out.blk⟩, HB.out, fun y hy => ?_⟩
        · show (List.replicate _ _).length ≤ 4096
          rw [List.length_replicate]
          exact most_le _
        · have : s = Pl.Sec.empty := List.eq_of_mem_replicate hs
          rw [this]
          exact ⟨by simp [Pl.Sec.empty, Pl.zeros], by simp [Pl.Sec.empty, Pl.zeros]⟩
        · show World.ownsRow _ 0 _ 5 _ (List.replicate _ _).length (secsCells (List.replicate _ _))
          rw [HM.out, List.length_replicate]
          exact own_low HN.out.own (Nat.zero_le _)
        · rcases hy with rfl | hy
          · exact Nat.le_refl _
          · have := (HN.out.own.lt y hy).1
            omega
  · by_cases h2 : 4096 < n
    · have HM : Hid (Pl.most n = 4096) := by unfold Pl.most; rw [Hid, if_neg h1, if_pos h2]
      go_enter Tryd.func14, Tryd.ntmps14
      go_wp2_with fail
      go_loopw [5] (fun i W => ∃ (k : Nat) (v : Value), k ≤ 4096 ∧ i = .int .i64 (k : Int) ∧ Hid (NewAt W w.heap.size v k) ∧ Hid (Below w.heap.size w W)) (fun i _ => 4096 - (intOf i).toNat)
      case atStart =>
        refine ⟨0, .slice none 0 0, Nat.zero_le _, rfl, ⟨(fun e => by cases e), World.ownsRow_nil _ _ _ _, HBK.out.below HB2.out HBK.out.lt⟩, HB1.out.trans (HB2.out.mono HB1.out.size)⟩
      case round =>
        obtain ⟨k, v, hk, rfl, HN, HB⟩ := hrel
        obtain ⟨A, cap, rfl, _, _, _⟩ := own_src HN.out.own
        obtain ⟨c0, c1, c2, c3, c4, f0, f1, f2, f3, f4⟩ := facts5 HN.out.blk
        have hgl := HN.out.blk.lt
        by_cases hkm : k < 4096
        · have h63 : Hid (k + 1 ≤ maxLen) := by rw [Hid]; simp only [maxLen]; omega
          have hroom := Lib.hid (sector_room (n := k) (m := 1) (by omega))
          clear c1 c2 c3 c4 f1 f2 f3 f4
          go_wp2_with (at_builtin
                       obtain ⟨w3, hw3⟩ : ∃ w3, wr.alloc (.cells #[.string Z, .string Z, .bool false, .bool false, .bool false] 92) = w3 := ⟨_, rfl⟩
                       have hb3 : Below wr.heap.size wr w3 := by rw [← hw3]; exact (Below.refl _ _).alloc (Nat.le_refl _) _
                       have HSR3 : Hid (Src w3 (some ⟨wr.heap.size, 0, none⟩) (secCells Pl.Sec.empty)) := by
                         rw [Hid, ← hw3]
                         have : secCells Pl.Sec.empty = [.string Z, .string Z, .bool false, .bool false, .bool false] := by rw [← HZ.out]; rfl
                         rw [this]
                         exact Src.of_blk (Blk.new wr 92 _)
                       have HB3 := Lib.hid hb3
                       have hs3 := hb3.size
                       rw [hw3]
                       clear hb3 hw3
                       refine wpList_append_src _ rfl (.tmp 23) (.tmp 27) 88 rfl (w.heap.size + 1) 92 i0 _ 5 40 Tryd.underlying88 HI.out.1 HI.out.2.1 HI.out.2.2.1 HI.out.2.2.2 rfl (by decide) (.slice A k cap) k (secsCells (List.replicate k Pl.Sec.empty)) rfl (own_below HN.out.own HB3.out) (some ⟨wr.heap.size, 0, none⟩) 1 1 (secCells Pl.Sec.empty) rfl rfl HSR3.out (by intro u hu; exact secsCells_one [Pl.Sec.empty] u (by simpa [secsCells] using hu)) h63.out hroom.out (by omega) ?_
                       intro v4 w4 hown4 hgrow4 hat4
                       have hbk4 := (HN.out.blk.below HB3.out HN.out.blk.lt).grown hgrow4 (fun e => HN.out.far e.symm)
                       have hown5 : w4.ownsRow (w.heap.size + 1) 92 5 v4 (k + 1) (secsCells (List.replicate (k + 1) Pl.Sec.empty)) := by rw [new_secs]; exact hown4
                       have HBK4 := Lib.hid hbk4
                       have HO4 := Lib.hid hown5
                       have HB4 : Hid (Below w.heap.size w w4) := (HB.out.trans (HB3.out.mono HB.out.size)).grown hgrow4 (by omega) (fun y hy => by have := (HN.out.own.lt y hy).1; omega)
                       obtain ⟨x0, _, _, _, _, y0, _, _, _, _⟩ := facts5 hbk4
                       obtain ⟨A4, cap4, rfl, _, _, _⟩ := own_src hown4
                       clear hown4 hgrow4 hat4 hbk4 hown5)
          have hfar : ∀ x, (Value.slice A4 (k + 1) cap4).ownBlock = some x → x ≠ w.heap.size := fun x hx => by have := (HO4.out.lt x hx).1; omega
          refine ⟨⟨k + 1, .slice A4 (k + 1) cap4, by omega, by go_num, ⟨fun e => hfar _ e rfl, ?_, HBK4.out.set_ 0 _⟩, HB4.out.setCell (p := ⟨w.heap.size, 0, none⟩) (Nat.le_refl _) _⟩, by simp [intOf]; omega⟩
          exact Only.own ((Only.refl (· = w.heap.size) w4).setCell (p := ⟨w.heap.size, 0, none⟩) (.inl rfl) _) HO4.out (fun y hy e => hfar y hy e)
        · obtain rfl : k = 4096 := by omega
          go_wp2_with fail
          go_ret
          refine ⟨_, rfl, ⟨?_, fun s hs => ?_, ⟨by show (-1 : Int) ≤ -1; omega, by show (-1 : Int) ≤ 9223372036854775807; omega⟩, HN.out.far, ?_, 0, 0, HN.out.blk⟩, HB.out, fun y hy => ?_⟩
          · show (List.replicate _ _).length ≤ 4096
            rw [List.length_replicate]
            exact most_le _
          · have : s = Pl.Sec.empty := List.eq_of_mem_replicate hs
            rw [this]
            exact ⟨by simp [Pl.Sec.empty, Pl.zeros], by simp [Pl.Sec.empty, Pl.zeros]⟩
          · show World.ownsRow _ 0 _ 5 _ (List.replicate _ _).length (secsCells (List.replicate _ _))
            rw [HM.out, List.length_replicate]
            exact own_low HN.out.own (Nat.zero_le _)
          · rcases hy with rfl | hy
            · exact Nat.le_refl _
            · have := (HN.out.own.lt y hy).1
              omega
    · obtain ⟨m, rfl⟩ : ∃ m : Nat, n = m := ⟨n.toNat, by omega⟩
      have HM : Hid (Pl.most (m : Int) = m) := by unfold Pl.most; rw [Hid, if_neg h1, if_neg h2]; omega
      go_enter Tryd.func14, Tryd.ntmps14
      go_wp2_with fail
      go_loopw [5] (fun i W => ∃ (k : Nat) (v : Value), k ≤ m ∧ i = .int .i64 (k : Int) ∧ Hid (NewAt W w.heap.size v k) ∧ Hid (Below w.heap.size w W)) (fun i _ => m - (intOf i).toNat)
      case atStart =>
        refine ⟨0, .slice none 0 0, Nat.zero_le _, rfl, ⟨(fun e => by cases e), World.ownsRow_nil _ _ _ _, HBK.out.below HB2.out HBK.out.lt⟩, HB1.out.trans (HB2.out.mono HB1.out.size)⟩
      case round =>
        obtain ⟨k, v, hk, rfl, HN, HB⟩ := hrel
        obtain ⟨A, cap, rfl, _, _, _⟩ := own_src HN.out.own
        obtain ⟨c0, c1, c2, c3, c4, f0, f1, f2, f3, f4⟩ := facts5 HN.out.blk
        have hgl := HN.out.blk.lt
        by_cases hkm : k < m
        · have h63 : Hid (k + 1 ≤ maxLen) := by rw [Hid]; simp only [maxLen]; omega
          have hroom := Lib.hid (sector_room (n := k) (m := 1) (by omega))
          clear c1 c2 c3 c4 f1 f2 f3 f4
          go_wp2_with (at_builtin
                       obtain ⟨w3, hw3⟩ : ∃ w3, wr.alloc (.cells #[.string Z, .string Z, .bool false, .bool false, .bool false] 92) = w3 := ⟨_, rfl⟩
                       have hb3 : Below wr.heap.size wr w3 := by rw [← hw3]; exact (Below.refl _ _).alloc (Nat.le_refl _) _
                       have HSR3 : Hid (Src w3 (some ⟨wr.heap.size, 0, none⟩) (secCells Pl.Sec.empty)) := by
                         rw [Hid, ← hw3]
                         have : secCells Pl.Sec.empty = [.string Z, .string Z, .bool false, .bool false, .bool false] := by rw [← HZ.out]; rfl
                         rw [this]
                         exact Src.of_blk (Blk.new wr 92 _)
                       have HB3 := Lib.hid hb3
                       have hs3 := hb3.size
                       rw [hw3]
                       clear hb3 hw3
                       refine wpList_append_src _ rfl (.tmp 23) (.tmp 27) 88 rfl (w.heap.size + 1) 92 i0 _ 5 40 Tryd.underlying88 HI.out.1 HI.out.2.1 HI.out.2.2.1 HI.out.2.2.2 rfl (by decide) (.slice A k cap) k (secsCells (List.replicate k Pl.Sec.empty)) rfl (own_below HN.out.own HB3.out) (some ⟨wr.heap.size, 0, none⟩) 1 1 (secCells Pl.Sec.empty) rfl rfl HSR3.out (by intro u hu; exact secsCells_one [Pl.Sec.empty] u (by simpa [secsCells] using hu)) h63.out hroom.out (by omega) ?_
                       intro v4 w4 hown4 hgrow4 hat4
                       have hbk4 := (HN.out.blk.below HB3.out HN.out.blk.lt).grown hgrow4 (fun e => HN.out.far e.symm)
                       have hown5 : w4.ownsRow (w.heap.size + 1) 92 5 v4 (k + 1) (secsCells (List.replicate (k + 1) Pl.Sec.empty)) := by rw [new_secs]; exact hown4
                       have HBK4 := Lib.hid hbk4
                       have HO4 := Lib.hid hown5
                       have HB4 : Hid (Below w.heap.size w w4) := (HB.out.trans (HB3.out.mono HB.out.size)).grown hgrow4 (by omega) (fun y hy => by have := (HN.out.own.lt y hy).1; omega)
                       obtain ⟨x0, _, _, _, _, y0, _, _, _, _⟩ := facts5 hbk4
                       obtain ⟨A4, cap4, rfl, _, _, _⟩ := own_src hown4
                       clear hown4 hgrow4 hat4 hbk4 hown5)
          have hfar : ∀ x, (Value.slice A4 (k + 1) cap4).ownBlock = some x → x ≠ w.heap.size := fun x hx => by have := (HO4.out.lt x hx).1; omega
          refine ⟨⟨k + 1, .slice A4 (k + 1) cap4, by omega, by go_num, ⟨fun e => hfar _ e rfl, ?_, HBK4.out.set_ 0 _⟩, HB4.out.setCell (p := ⟨w.heap.size, 0, none⟩) (Nat.le_refl _) _⟩, by simp [intOf]; omega⟩
          exact Only.own ((Only.refl (· = w.heap.size) w4).setCell (p := ⟨w.heap.size, 0, none⟩) (.inl rfl) _) HO4.out (fun y hy e => hfar y hy e)
        · obtain rfl : k = m := by omega
          go_wp2_with fail
          go_ret
          refine ⟨_, rfl, ⟨?_, fun s hs => ?_, ⟨by show (-1 : Int) ≤ -1; omega, by show (-1 : Int) ≤ 9223372036854775807; omega⟩, HN.out.far, ?_, 0, 0, HN.out.blk⟩, HB.out, fun y hy => ?_⟩
          · show (List.replicate _ _).length ≤ 4096
            rw [List.length_replicate]
            exact most_le _
          · have : s = Pl.Sec.empty := List.eq_of_mem_replicate hs
            rw [this]
            exact ⟨by simp [Pl.Sec.empty, Pl.zeros], by simp [Pl.Sec.empty, Pl.zeros]⟩
          · show World.ownsRow _ 0 _ 5 _ (List.replicate _ _).length (secsCells (List.replicate _ _))
            rw [HM.out, List.length_replicate]
            exact own_low HN.out.own (Nat.zero_le _)
          · rcases hy with rfl | hy
            · exact Nat.le_refl _
            · have := (HN.out.own.lt y hy).1
              omega
end Go.Proofs.YtljmklohgpaopaaDoor

namespace Go.Proofs.YtljmklohgpaopaaDoor
open Go.RowKit

/-- The cells of the harness's log. -/
def xCells (g gl : Nat) (l : Pl.Lg) (vall vb : Value) : List Value := [.pointer (some ⟨g, 0, none⟩), .pointer (some ⟨gl, 0, none⟩), .int .i64 (l.first : Nat), .int .i64 (l.data + 2 : Nat), vall, vb, .slice none 0 0, .slice none 0 0, .slice none 0 0, .slice none 0 0]
/-- The harness's log, with what it must have, and its book. -/
structure XAt (B : Nat) (w : World) (gx g gl : Nat) (v va vall vb : Value) (vs bs : List Value) (d : Pl.Dk) (rd : Int) (l : Pl.Lg) (ss : List ByteArray) : Prop where
  blk : Blk w gx 54 (xCells g gl l vall vb)
  log : LogSt w gl g v va vs d rd l
  all : w.ownsRow B 9 1 vall ss.length (sv ss)
  same : bl ss = l.all
  book : BookRows w B vb bs
  low : B ≤ gx ∧ ∀ k, lFa gl g v va k → B ≤ k
  apart : ∀ k, va.ownBlock = some k → vb.ownBlock ≠ some k
theorem XAt.below {B : Nat} {w w' : World} {gx g gl : Nat} {v va vall vb : Value} {vs bs : List Value} {d : Pl.Dk} {rd : Int} {l : Pl.Lg} {ss : List ByteArray} (h : XAt B w gx g gl v va vall vb vs bs d rd l ss) (hb : Below w.heap.size w w') : XAt B w' gx g gl v va vall vb vs bs d rd l ss :=
  ⟨h.blk.below hb h.blk.lt, h.log.below hb, own_below h.all hb, h.same, h.book.below hb, h.low, h.apart⟩
/-- The book's cells alone are written. -/
def bookF (gx : Nat) (vb : Value) (x : Nat) : Prop := x = gx ∨ vb.ownBlock = some x
theorem bookF_kinds {w : World} {B gx n : Nat} {vb : Value} {xs cs : List Value} (hX : Blk w gx 54 cs) (hb : w.ownsRow B 23 1 vb n xs) : Kinds (bookF gx vb) w [54, 23] := by
  rintro x (rfl | hx)
  · exact ⟨_, by simp, hX.typ⟩
  · exact ⟨_, by simp, own_typ hb hx⟩
theorem LogSt.onlyX {w w' : World} {gx gl g B n : Nat} {v va vb : Value} {vs xs cs : List Value} {d : Pl.Dk} {rd : Int} {l : Pl.Lg} (h : LogSt w gl g v va vs d rd l) (ho : Only (bookF gx vb) w w') (hX : Blk w gx 54 cs) (hb : w.ownsRow B 23 1 vb n xs) (hap : ∀ k, va.ownBlock = some k → vb.ownBlock ≠ some k) : LogSt w' gl g v va vs d rd l := by
  have hk := bookF_kinds hX hb
  refine ⟨h.disk.onlyT ho hk (by decide) (by decide), h.cells.only ho hk (by decide), ⟨ho.own h.rows.own (fun k hk' e => ?_), fun k u x hu hx => ho.own_ hk (h.rows.each k u x hu hx) (by decide)⟩⟩
  rcases e with e | e
  · subst e
    have := (own_typ h.rows.own hk').uniq hX.typ
    revert this
    decide
  · exact hap k hk' e

theorem tstr_same (s : ByteArray) : tstr s.data.toList = s := rfl
theorem facts10 {w : World} {g : Nat} {t : TypeId} {a0 a1 a2 a3 a4 a5 a6 a7 a8 a9 : Value} (h : Blk w g t [a0, a1, a2, a3, a4, a5, a6, a7, a8, a9]) :
    w.cell? ⟨g, 0, none⟩ = some a0 ∧ w.cell? ⟨g, 1, none⟩ = some a1 ∧ w.cell? ⟨g, 2, none⟩ = some a2 ∧ w.cell? ⟨g, 3, none⟩ = some a3 ∧ w.cell? ⟨g, 4, none⟩ = some a4 ∧ w.cell? ⟨g, 5, none⟩ = some a5 ∧
    w.frozen? ⟨g, 0, none⟩ = false ∧ w.frozen? ⟨g, 1, none⟩ = false ∧ w.frozen? ⟨g, 4, none⟩ = false := ⟨h.cell 0, h.cell 1, h.cell 2, h.cell 3, h.cell 4, h.cell 5, h.frozen 0, h.frozen 1, h.frozen 4⟩

/-- How far same is. -/
structure SameAt (B : Nat) (w w1 W : World) (gx g gl : Nat) (vall vb vo vbk : Value) (bs vs' : List Value) (l : Pl.Lg) (k : Nat) (news : List Value) : Prop where
  blk : Blk W gx 54 (xCells g gl l vall vbk)
  book : BookRows W B vbk (bs ++ news)
  count : news.length = k
  rest : ∀ (j : Nat) (u : Value) (x : List UInt8), k ≤ j → vs'[j]? = some u → l.all[j]? = some x → W.ownsRow w.heap.size 5 1 u x.length (bv x)
  row : W.ownsRow w.heap.size 23 1 vo l.all.length vs'
  done : ∀ u ∈ news, ∀ x, u.ownBlock = some x → ∃ j y, j < k ∧ vs'[j]? = some y ∧ y.ownBlock = some x
  only : Only (bookF gx vb) w W
  size : w1.heap.size ≤ W.heap.size
  vb_ : ∀ x, vbk.ownBlock = some x → vb.ownBlock = some x ∨ w1.heap.size ≤ x

theorem pair_at {P : Value → Value → Prop} : ∀ {l : List Value}, l.Pairwise P → ∀ {i j : Nat} {a b : Value}, l[i]? = some a → l[j]? = some b → i < j → P a b
  | [], _, i, j, a, b, h1, _, _ => by simp at h1
  | x :: r, h, i, j, a, b, h1, h2, hij => by
    rw [List.pairwise_cons] at h
    match i, j with
    | 0, j + 1 =>
      simp at h1 h2
      subst h1
      exact h.1 b (List.mem_of_getElem? h2)
    | i + 1, j + 1 => exact pair_at h.2 (by simpa using h1) (by simpa using h2) (by omega)
theorem own_bytes {w : World} {base n g cap : Nat} {l : List UInt8} (h : w.ownsRow base 5 1 (.slice (some ⟨g, 0, none⟩) n cap) n (bv l)) : BytesAt w (some ⟨g, 0, none⟩) l :=
  .inr ⟨g, 0, rfl, fun i hi => by rw [Nat.zero_add]; exact own_at h i _ (getb l i hi)⟩
theorem SameAt.below {B : Nat} {w w1 W W' : World} {gx g gl k : Nat} {vall vb vo vbk : Value} {bs vs' news : List Value} {l : Pl.Lg} (h : SameAt B w w1 W gx g gl vall vb vo vbk bs vs' l k news) (hb : Below W.heap.size W W') : SameAt B w w1 W' gx g gl vall vb vo vbk bs vs' l k news :=
  ⟨h.blk.below hb h.blk.lt, h.book.below hb, h.count, fun j u x h1 h2 h3 => own_below (h.rest j u x h1 h2 h3) hb, own_below h.row hb, h.done, h.only.below hb, Nat.le_trans h.size hb.size, h.vb_⟩
theorem only_below {F : Nat → Prop} {a b : World} {B : Nat} (ho : Only F a b) (hF : ∀ k, F k → B ≤ k) (hB : B ≤ a.heap.size) : Below B a b :=
  ⟨ho.os, ho.tape, ho.output, ho.size, fun k hk => ho.block k (by omega) (fun hf => by have := hF k hf; omega)⟩
/-- A list of lists is written, that is none of these. -/
theorem XAt.onlyV {B n base : Nat} {w w' : World} {gx g gl : Nat} {v va vall vb vo : Value} {vs bs xs : List Value} {d : Pl.Dk} {rd : Int} {l : Pl.Lg} {ss : List ByteArray} (h : XAt B w gx g gl v va vall vb vs bs d rd l ss) (ho : Only (fun x => vo.ownBlock = some x) w w') (hvo : w.ownsRow base 23 1 vo n xs)
    (h1 : ∀ k, va.ownBlock = some k → vo.ownBlock ≠ some k) (h2 : ∀ k, vb.ownBlock = some k → vo.ownBlock ≠ some k) : XAt B w' gx g gl v va vall vb vs bs d rd l ss := by
  have hk : Kinds (fun x => vo.ownBlock = some x) w [23] := fun x hx => ⟨_, by simp, own_typ hvo hx⟩
  refine ⟨ho.blk_ hk h.blk (by decide), ⟨h.log.disk.onlyT ho hk (by decide) (by decide), h.log.cells.only ho hk (by decide), ⟨ho.own h.log.rows.own h1, fun k u x hu hx => ho.own_ hk (h.log.rows.each k u x hu hx) (by decide)⟩⟩, ho.own_ hk h.all (by decide), h.same, ⟨ho.own h.book.own h2, fun i u hu => ?_⟩, h.low, h.apart⟩
  obtain ⟨c, hc⟩ := h.book.each i u hu
  exact ⟨c, ho.own_ hk hc (by decide)⟩
/-- What own asks. -/
theorem SameAt.apart {B : Nat} {w w1 W : World} {gx g gl k : Nat} {vall vb vo vbk u : Value} {bs vs' news : List Value} {l : Pl.Lg} {x : List UInt8} (h : SameAt B w w1 W gx g gl vall vb vo vbk bs vs' l k news) (hout : OutAt w1 w.heap.size vo vs' l.all) (hb0 : BookRows w B vb bs) (hu : vs'[k]? = some u) (hx : l.all[k]? = some x) :
    ∀ u' ∈ bs ++ news, ∀ y, u.ownBlock = some y → u'.ownBlock ≠ some y := by
  intro u' hu' y hy e
  have h1 := ((hout.each k u x hu hx).lt y hy).1
  rcases List.mem_append.1 hu' with hm | hm
  · have := (hb0.lt y (.inr ⟨u', hm, e⟩)).2
    omega
  · obtain ⟨j, y', hj, hy', he⟩ := h.done u' hm y e
    exact pair_at hout.apart hy' hu hj y he hy
theorem SameAt.next {B : Nat} {w w1 W W' : World} {gx g gl k : Nat} {vall vb vo vbk u : Value} {bs vs' news : List Value} {l : Pl.Lg} {x : List UInt8} {e : Ending} (h : SameAt B w w1 W gx g gl vall vb vo vbk bs vs' l k news) (hout : OutAt w1 w.heap.size vo vs' l.all) (hs : w.heap.size ≤ w1.heap.size) (hvb0 : ∀ q, vb.ownBlock = some q → B ≤ q ∧ q < w.heap.size) (hu : vs'[k]? = some u) (hx : l.all[k]? = some x)
    (hp : OwnPost gx 5 B 54 (xCells g gl l vall vbk) u vbk (bs ++ news) W e W') : e = .returned (.tuple #[]) ∧ ∃ vbk' news', SameAt B w w1 W' gx g gl vall vb vo vbk' bs vs' l (k + 1) news' := by
  obtain ⟨vb', v', he, hbk, hblk, hvu, hvb, ho⟩ := hp
  refine ⟨he, vb', news ++ [v'], hblk, by rw [← List.append_assoc]; exact hbk, by simp [h.count], fun j y z hj hy hz => ?_, ?_, fun y hy z hz => ?_, ?_, Nat.le_trans h.size ho.size, fun y hy => ?_⟩
  · have hr := h.rest j y z (by omega) hy hz
    refine ho.own hr (fun q hq e => ?_)
    rcases e with e | e | e
    · subst e
      have := (own_typ hr hq).uniq h.blk.typ
      revert this
      decide
    · have := (own_typ hr hq).uniq (own_typ h.book.own e)
      revert this
      decide
    · exact pair_at hout.apart hu hy (by omega) q e hq
  · refine ho.own h.row (fun q hq e => ?_)
    have hq1 := (hout.own.lt q hq)
    rcases e with e | e | e
    · subst e
      have := (own_typ h.row hq).uniq h.blk.typ
      revert this
      decide
    · rcases h.vb_ q e with e' | e'
      · have := (hvb0 q e').2
        omega
      · omega
    · have := (own_typ h.row hq).uniq (own_typ (h.rest k u x (Nat.le_refl _) hu hx) e)
      revert this
      decide
  · rcases List.mem_append.1 hy with hm | hm
    · obtain ⟨j, y', h1, h2, h3⟩ := h.done y hm z hz
      exact ⟨j, y', by omega, h2, h3⟩
    · rw [List.mem_singleton] at hm
      subst hm
      exact ⟨k, u, by omega, hu, by rw [← hvu]; exact hz⟩
  · refine h.only.trans ho (fun q hq e => ?_)
    rcases e with e | e | e
    · exact .inl e
    · rcases h.vb_ q e with e' | e'
      · exact .inr e'
      · omega
    · have := ((hout.each k u x hu hx).lt q e).1
      omega
  · rcases hvb with e | e
    · exact h.vb_ y (by rw [← e]; exact hy)
    · exact .inr (Nat.le_trans h.size (e y hy))

set_option maxHeartbeats 4000000 in
set_option maxRecDepth 100000 in
theorem same_any (B : Nat) (w : World) (gx g gl : Nat) (v va vall vb : Value) (vs bs : List Value) (d : Pl.Dk) (rd : Int) (l : Pl.Lg) (ss : List ByteArray) (h : XAt B w gx g gl v va vall vb vs bs d rd l ss) (hrows : l.all.length ≤ 5000) (hsz : ∀ x ∈ l.all, 1 ≤ x.length ∧ x.length ≤ 2000) (hbs : bs.length ≤ 900000000) (hBw : B ≤ w.heap.size) :
    Calls Tryd.prog 44 #[.pointer (some ⟨gx, 0, none⟩)] w fun e w' => e = .returned (.bool true) ∧ ∃ vb' bs', XAt B w' gx g gl v va vall vb' vs bs' d rd l ss ∧ bs'.length = bs.length + l.all.length ∧ Below B w w' := by
  have hsl : ss.length = l.all.length := by rw [← h.same]; simp [bl]
  obtain ⟨Aa, capa, rfl, _, _, _⟩ := own_src h.all
  obtain ⟨N, hN⟩ : ∃ N, l.all.length = N := ⟨_, rfl⟩
  have HN := Lib.hid hN
  have hsN : ss.length = N := hsl.trans hN
  obtain ⟨c0, c1, c2, c3, c4, c5, f0, f1, f4⟩ := facts10 h.blk
  rw [hsN] at c4
  have HALL := Lib.hid (all_any gl g v va vs d rd l w h.log hrows (fun x hx => (hsz x hx).2))
  have H := Lib.hid h
  have HSZ := Lib.hid hsz
  rw [hN] at hrows
  clear h hsz c0 c2 c3 c5 f0 f1 f4
  go_enter Tryd.func44, Tryd.ntmps44
  go_wp2_with fail
  refine HALL.out.mono ?_
  rintro e w1 ⟨vo, vs', rfl, hout, hb1⟩
  have hH1 := H.out.below hb1
  obtain ⟨c0, c1', c2, c3, c4', c5, f0, f1, f4⟩ := facts10 hH1.blk
  rw [hsN] at c4'
  obtain ⟨Ao, capo, rfl, _, _, _⟩ := own_src hout.own
  have HOUT := Lib.hid hout
  have HB1 := Lib.hid hb1
  have H1 := Lib.hid hH1
  clear hout hb1 hH1 c0 c2 c3 c5 f0 f1 f4 c1 c4
  rw [hN]
  go_wp2_with fail
  have hBB0 := H.out.book
  have hvb0 : ∀ q, vb.ownBlock = some q → B ≤ q ∧ q < w.heap.size := fun q hq => hBB0.lt q (.inl hq)
  have HBB := Lib.hid hBB0
  have HVB := Lib.hid hvb0
  have hs1 := HB1.out.size
  have HAL1 := Lib.hid H1.out.all
  have hvl : Hid (vs'.length = N) := by rw [Hid, HOUT.out.length]; exact hN
  have HON : Hid (Only (fun _ => False) w w1) := Only.of_below HB1.out _
  clear hBB0 hvb0
  go_loopw [4] (fun i W => ∃ (k : Nat) (vbk : Value) (news : List Value), k ≤ N ∧ i = .int .i64 (k : Int) ∧ Hid (SameAt B w w1 W gx g gl (.slice Aa ss.length capa) vb (.slice Ao l.all.length capo) vbk bs vs' l k news)) (fun i _ => N - (intOf i).toNat)
  case atStart =>
    refine ⟨0, vb, [], Nat.zero_le _, rfl, H1.out.blk, by rw [List.append_nil]; exact H1.out.book, rfl, fun j u x _ hu hx => HOUT.out.each j u x hu hx, HOUT.out.own, fun u hu => by simp at hu, HON.out.mono (fun _ _ h => h.elim), Nat.le_refl _, fun x hx => .inl hx⟩
  case round =>
    obtain ⟨k, vbk, news, hk, rfl, HSA⟩ := hrel
    by_cases hkn : k < N
    · obtain ⟨u, hu⟩ : ∃ u, vs'[k]? = some u := ⟨_, List.getElem?_eq_getElem (by rw [hvl.out]; exact hkn)⟩
      obtain ⟨x, hx⟩ : ∃ x, l.all[k]? = some x := ⟨_, List.getElem?_eq_getElem (by rw [HN.out]; exact hkn)⟩
      obtain ⟨s, hs⟩ : ∃ s, ss[k]? = some s := ⟨_, List.getElem?_eq_getElem (by rw [hsN]; exact hkn)⟩
      have hsx : s.data.toList = x := by
        have h1 : (bl ss)[k]? = some s.data.toList := by simp [bl, hs]
        rw [H.out.same, hx] at h1
        exact (Option.some.inj h1).symm
      have HU := Lib.hid hu
      have HX := Lib.hid hx
      have hxl := HSZ.out x (List.mem_of_getElem? hx)
      have hru := HSA.out.rest k u x (Nat.le_refl _) hu hx
      obtain ⟨gu, capu, rfl, _, _⟩ := own_addr hru (by omega)
      obtain ⟨go, capo', e0, _, _⟩ := own_addr HSA.out.row (by omega)
      injection e0 with e1 e2 e3
      subst e1 e3
      have cU := own_at HSA.out.row k _ hu
      have hal := HSA.out.only.own_ (bookF_kinds H.out.blk H.out.book.own) H.out.all (by decide)
      obtain ⟨ga, capa', e4, _, _⟩ := own_addr hal (by omega)
      injection e4 with e5 e6 e7
      subst e5 e7
      have cS := own_at hal k (.string s) (by simp [sv, hs])
      obtain ⟨_, _, _, _, d4, _, _, _, _⟩ := facts10 HSA.out.blk
      rw [hsN] at d4
      have hcv : ∀ n, (convert 23 9 (.slice (some ⟨gu, 0, none⟩) x.length capu)).run Tryd.prog (wr.drewN n) = .ok (.string s) (wr.drewN n) := by
        intro n
        have := run_tostr (wr.drewN n) (some ⟨gu, 0, none⟩) x capu (own_bytes (own_below hru (below_drewN (Below.refl _ _) n)))
        rw [this, ← hsx]
        rfl
      have hapart := HSA.out.apart HOUT.out HBB.out hu hx
      have hwl := Nat.le_trans hs1 HSA.out.size
      have HOWN := Lib.hid (fun n => own_any' gx 5 B 54 (xCells g gl l (.slice (some ⟨ga, 0, none⟩) ss.length capa) vbk) vbk (.slice (some ⟨gu, 0, none⟩) x.length capu) (bs ++ news) x.length (bv x) (wr.drewN n) (HSA.out.below (below_drewN (Below.refl _ _) n)).book (HSA.out.below (below_drewN (Below.refl _ _) n)).blk rfl (by decide) (by decide) (own_low (own_below hru (below_drewN (Below.refl _ _) n)) hBw) (by omega) hapart (by show B ≤ wr.heap.size; omega) (by rw [List.length_append, HSA.out.count]; omega))
      have S9 := Lib.hid cU
      clear hu hx hs hru hal hapart
      rw [hN]
      go_wp2_with fail
      go_quiet (fail)
      go_wp2_with fail
      refine wp_region_held_drew (S := fun W : World => W.cell? ⟨go, k, none⟩ = some (.slice (some ⟨gu, 0, none⟩) x.length capu)) (by kernel_rfl) S9.out (fun hHeld => ?_)
      refine wpAnyH_take (i := 0) (oi := _) (v := ?_) rfl (by kernel_rfl) (by kernel_rfl) (by kernel_rfl) (fun _ _ _ h => h) (Or.inl ⟨by rfl, ?_⟩) (by assumption) ?_
      rotate_left
      · intro W hSw
        (try dsimp only at hSw)
        go_simp
        rfl
      (try simp only [Act.put, List.getElem_toArray, List.getElem_cons_succ, List.getElem_cons_zero, List.setIfInBounds_toArray, List.set_cons_zero, List.set_cons_succ])
      refine wpAnyH_take (i := 1) (oi := _) (v := ?_) rfl (by kernel_rfl) (by kernel_rfl) (by kernel_rfl) (fun _ _ _ h => h) (Or.inl ⟨by rfl, ?_⟩) (by assumption) ?_
      rotate_left
      · intro W hSw
        (try dsimp only at hSw)
        go_simp
        rfl
      (try simp only [Act.put, List.getElem_toArray, List.getElem_cons_succ, List.getElem_cons_zero, List.setIfInBounds_toArray, List.set_cons_zero, List.set_cons_succ])
      refine wpAnyH_take (i := 2) (oi := _) (v := ?_) rfl (by kernel_rfl) (by kernel_rfl) (by kernel_rfl) (fun _ _ _ h => h) (Or.inl ⟨by rfl, ?_⟩) (by assumption) ?_
      rotate_left
      · intro W hSw
        (try dsimp only at hSw)
        go_simp
        rfl
      (try simp only [Act.put, List.getElem_toArray, List.getElem_cons_succ, List.getElem_cons_zero, List.setIfInBounds_toArray, List.set_cons_zero, List.set_cons_succ])
      refine wpAnyH_take (i := 3) (oi := _) (v := ?_) rfl (by kernel_rfl) (by kernel_rfl) (by kernel_rfl) (fun _ _ _ h => h) (Or.inl ⟨by rfl, ?_⟩) (by assumption) ?_
      rotate_left
      · intro W hSw
        (try dsimp only at hSw)
        go_simp
        rfl
      (try simp only [Act.put, List.getElem_toArray, List.getElem_cons_succ, List.getElem_cons_zero, List.setIfInBounds_toArray, List.set_cons_zero, List.set_cons_succ])
      refine wpAnyH_take (i := 4) (oi := _) (v := ?_) rfl (by kernel_rfl) (by kernel_rfl) (by kernel_rfl) (fun _ _ _ h => h) (Or.inl ⟨by rfl, ?_⟩) (by assumption) ?_
      rotate_left
      · intro W hSw
        (try dsimp only at hSw)
        go_simp
        rfl
      (try simp only [Act.put, List.getElem_toArray, List.getElem_cons_succ, List.getElem_cons_zero, List.setIfInBounds_toArray, List.set_cons_zero, List.set_cons_succ])
      refine wpAnyH_take (i := 5) (oi := _) (v := ?_) rfl (by kernel_rfl) (by kernel_rfl) (by kernel_rfl) (fun _ _ _ h => h) (Or.inl ⟨by rfl, ?_⟩) (by assumption) ?_
      rotate_left
      · intro W hSw
        (try dsimp only at hSw)
        go_simp
        rfl
      (try simp only [Act.put, List.getElem_toArray, List.getElem_cons_succ, List.getElem_cons_zero, List.setIfInBounds_toArray, List.set_cons_zero, List.set_cons_succ])
      refine wpAnyH_take (i := 6) (oi := _) (v := ?_) rfl (by kernel_rfl) (by kernel_rfl) (by kernel_rfl) (fun _ _ _ h => h) (Or.inl ⟨by rfl, ?_⟩) (by assumption) ?_
      rotate_left
      · intro W hSw
        (try dsimp only at hSw)
        go_simp
        rfl
      (try simp only [Act.put, List.getElem_toArray, List.getElem_cons_succ, List.getElem_cons_zero, List.setIfInBounds_toArray, List.set_cons_zero, List.set_cons_succ])
      refine wpAnyH_ready (rs := [7]) (by kernel_rfl) (by simp) ?_
      refine AllReadyH.cons (o := _) rfl (fun K hK => ?_) AllReadyH.nil
      go_simp
      refine (HOWN.out _).mono ?_
      intro e W' hp
      obtain ⟨rfl, vbk', news', hSA'⟩ := (HSA.out.below (W' := wr.drewN (nq + 1)) (below_drewN (Below.refl _ _) _)).next HOUT.out hs1 HVB.out HU.out HX.out hp
      have HS' := Lib.hid hSA'
      clear hp hSA'
      go_wp2_with fail
      refine hK.out _ _ (own_at HS'.out.row k _ HU.out) (fun _ => ?_)
      refine wpAnyH_done (by kernel_rfl) ?_ _
      clear hK K hHeld
      go_wp2_with fail
      exact ⟨⟨k + 1, vbk', news', by omega, by go_num, (by have h9 := HS'.out; rw [hN] at h9; exact h9)⟩, by simp [intOf]; omega⟩
    · obtain rfl : k = N := by omega
      have hvw : ∀ q, (Value.slice Ao l.all.length capo).ownBlock = some q → w.heap.size ≤ q ∧ q < w1.heap.size := fun q hq => HOUT.out.own.lt q hq
      have hva : ∀ q, va.ownBlock = some q → q < w.heap.size := fun q hq => H.out.log.lt q (.inr hq)
      have hX : XAt B wr gx g gl v va (.slice Aa ss.length capa) vbk vs (bs ++ news) d rd l ss := by
        refine ⟨HSA.out.blk, H.out.log.onlyX HSA.out.only H.out.blk H.out.book.own H.out.apart, HSA.out.only.own_ (bookF_kinds H.out.blk H.out.book.own) H.out.all (by decide), H.out.same, HSA.out.book, H.out.low, fun q hq e => ?_⟩
        have := hva q hq
        rcases HSA.out.vb_ q e with e' | e'
        · exact H.out.apart q hq e'
        · omega
      have HX := Lib.hid hX
      have HVW := Lib.hid hvw
      have HVA := Lib.hid hva
      clear hX hvw hva
      rw [hN]
      go_wp2_with fail
      go_loopw [5] (fun i W => ∃ (j : Nat), j ≤ k ∧ i = .int .i64 (j : Int) ∧ Hid (W.ownsRow w.heap.size 23 1 (.slice Ao l.all.length capo) l.all.length (List.replicate j (.slice none 0 0) ++ vs'.drop j)) ∧ Hid (Only (fun x => (Value.slice Ao l.all.length capo).ownBlock = some x) wr W)) (fun i _ => k - (intOf i).toNat)
      case atStart => exact ⟨0, Nat.zero_le _, rfl, HSA.out.row, Only.refl _ _⟩
      case round =>
        obtain ⟨j, hj, rfl, HR, HO⟩ := hrel
        by_cases hjk : j < k
        · obtain ⟨go, capo', e0, _, _⟩ := own_addr HR.out (by omega)
          injection e0 with e1 e2 e3
          subst e1
          obtain ⟨u, hu⟩ : ∃ u, vs'[j]? = some u := ⟨_, List.getElem?_eq_getElem (by rw [hvl.out]; exact hjk)⟩
          have cR := own_at HR.out j u (by rw [List.getElem?_append_right (by simp), List.length_replicate, Nat.sub_self, List.getElem?_drop, Nat.add_zero]; exact hu)
          have fR := HR.out.frozenAt j
          rw [hN]
          go_wp2_with fail
          have hst := (HR.out.stored j (.slice none 0 0)).1
          rw [rep_set _ _ _ (by rw [hvl.out]; exact hjk), hN] at hst
          have hot := HO.out.setCell (p := ⟨go, j, none⟩) (.inl rfl) (.slice none 0 0)
          rw [hN] at hot
          exact ⟨⟨j + 1, by omega, by go_num, hst, hot⟩, by simp [intOf]; omega⟩
        · obtain rfl : j = k := by omega
          rw [hN]
          go_wp2_with fail
          go_ret
          have hvn : ∀ q, va.ownBlock = some q → (Value.slice Ao l.all.length capo).ownBlock ≠ some q := fun q hq e => by
            have h1 := HVA.out q hq
            have h2 := (HVW.out q e).1
            omega
          have hbn : ∀ q, vbk.ownBlock = some q → (Value.slice Ao l.all.length capo).ownBlock ≠ some q := fun q hq e => by
            have h2 := HVW.out q e
            rcases HSA.out.vb_ q hq with h1 | h1
            · have := (HVB.out q h1).2; omega
            · omega
          refine ⟨rfl, vbk, bs ++ news, HX.out.onlyV HO.out HSA.out.row hvn hbn, by rw [List.length_append, HSA.out.count, hN], ?_⟩
          refine (only_below HSA.out.only (fun q hq => ?_) hBw).trans (only_below HO.out (fun q hq => Nat.le_trans hBw (HVW.out q hq).1) (Nat.le_trans hBw HSA.out.only.size))
          rcases hq with hq | hq
          · rw [hq]; exact H.out.low.1
          · exact (HVB.out q hq).1
end Go.Proofs.YtljmklohgpaopaaDoor
