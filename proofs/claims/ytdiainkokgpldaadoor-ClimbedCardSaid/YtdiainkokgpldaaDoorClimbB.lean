/- The law Climbed walked: it returns true. -/
import Derived.Test.YtdiainkokgpldaaDoorClimbA
namespace Go.Proofs.YtdiainkokgpldaaDoor
open Go.RowKit

theorem plainRoot_nil (w : World) : Calls Tryd.prog 11 #[.slice none 0 0] w fun e w' => e = .returned (.string ⟨#[0, 0, 21, 5]⟩) ∧ Below w.heap.size w w' := by
  have h := plainRoot_any [] none 0 w (.inl rfl) (Nat.le_refl _) (by simp)
  have e : hstr (Pl.root []) = ⟨#[0, 0, 21, 5]⟩ := by rw [Pl.root_nil]; rfl
  rw [e] at h
  exact h
theorem plainSum_nil (w : World) : Calls Tryd.prog 22 #[.slice none 0 0] w fun e w' => e = .returned (.string ⟨#[0, 0, 21, 5]⟩) ∧ Below w.heap.size w w' := plainSum_any none 0 [] w (.inl rfl) (by simp)

theorem plainClimb_path (s : ByteArray) (A : Option Addr) (cap k n : Nat) (ps : List Nat) (w : World) (hG : GE w) (hs : s.size ≤ 140737488351232) (hk : k < n) (hn : n ≤ 64) (hps : ps.length = Pl.depth k n) (hlt : ∀ x ∈ ps, x < 4294967296) (hb : BytesAt w A s.data.toList) :
    Calls Tryd.prog 18 #[.slice A s.size cap, .int .i64 k, .int .i64 n, .string (pstr ps)] w fun e w' => e = .returned (.tuple #[.string (hstr (Pl.climb s.data.toList k n ps)), errA (0 : Nat) ⟨#[]⟩]) ∧ Below w.heap.size w w' := by
  have hd := Pl.depth_lt k n hk
  have hpl := Pl.ptext_length ps
  have hl : s.data.toList.length = s.size := rfl
  have := plainClimb_good s.data.toList A cap k n (Pl.ptext ps) w hG (by omega) (by omega) hk (by omega) (by omega) hb
  rw [groups_ptext ps hlt, hl] at this
  exact this

theorem heap_newAt {w : World} {n : Nat} {o : Obj} (h : n = w.heap.size) : (w.alloc o).heap[n]? = some o := by subst h; exact heap_alloc_new w o
theorem tstr_back (s : ByteArray) : tstr s.data.toList = s := by cases s; simp [tstr]
def errZ : Obj := .cells #[.int .i64 0, .string ⟨#[]⟩, .bool true] 24

theorem conv_bytes_of {w : World} {g cap : Nat} {s : ByteArray} {l : List UInt8} (h : w.heap[g]? = some (convObj s cap)) (hl : s.data.toList = l) : BytesAt w (some ⟨g, 0, none⟩) l := by
  subst hl
  exact conv_bytes h

theorem plainSum_conv (s : ByteArray) (l : List UInt8) (hs : s.data.toList = l) (hm : s.size ≤ 9223372036854775807) (g cap : Nat) (w : World) (hb : BytesAt w (some ⟨g, 0, none⟩) l) :
    Calls Tryd.prog 22 #[.slice (some ⟨g, 0, none⟩) s.size cap] w fun e w' => e = .returned (.string (hstr (Pl.sumN l))) ∧ Below w.heap.size w w' := by
  subst hs
  exact plainSum_any _ cap s.data.toList w hb hm

set_option maxHeartbeats 4000000 in
set_option maxRecDepth 100000 in
theorem climbed_law (ss : List ByteArray) (A : Option Addr) (cap : Nat) (at_ : Int) (other : ByteArray) (w : World) (hG : GE w) (hs : Src w A (sv ss)) (hcap : ss.length ≤ cap) (hm : ss.length ≤ 8796093022208)
    (hsz : ∀ s ∈ ss, s.size ≤ 140737488351232) (hother : other.size ≤ 140737488351232) (hat : -9223372036854775808 ≤ at_ ∧ at_ ≤ 9223372036854775807) :
    Calls Tryd.prog 5 #[.slice A ss.length cap, .int .i64 at_, .string other] w fun e w' => e = .returned (.bool true) ∧ Below w.heap.size w w' := by
  obtain ⟨i0, hi0, hz0, hz1, hz2⟩ := info_parts Tryd.infoSlice
  obtain ⟨n, hn⟩ : ∃ n, min ss.length 64 = n := ⟨_, rfl⟩
  have hn64 : n ≤ 64 := by omega
  have hnl : n ≤ ss.length := by omega
  have HN := Lib.hid hn
  go_enter Tryd.func5, Tryd.ntmps5
  go_upto_if 26 with fail
  go_cut [7] from 23 (fun s7 wx => s7 = .int .i64 (n : Int) ∧ w = wx)
  case first =>
    by_cases h64 : 64 < ss.length
    · obtain rfl : n = 64 := by omega
      have h64' : (64 : Int) < (ss.length : Int) := by omega
      go_wp2_with fail
      go_meet
      case rel => exact ⟨rfl, rfl⟩
    · obtain rfl : ss.length = n := by omega
      have h64' : ¬ (64 : Int) < (ss.length : Int) := by omega
      go_wp2_with fail
      go_meet
      case rel => exact ⟨rfl, rfl⟩
  case rest =>
  obtain ⟨rfl, rfl⟩ := hcut
  by_cases h0 : n = 0
  · subst h0
    go_wp2_with fail
    refine (plainRoot_nil _).mono ?_
    rintro e w1 ⟨rfl, hb1⟩
    go_wp2_with fail
    refine (plainSum_nil _).mono ?_
    rintro e w2 ⟨rfl, hb2⟩
    go_wp2_with fail
    go_ret
    exact ⟨rfl, hb1.trans (hb2.mono hb1.size)⟩
  have hn0 : ¬ (n : Int) = 0 := by omega
  have hn00 : ((n : Int) == 0) = false := beq_eq_false_iff_ne.2 hn0
  go_wp2_with fail
  go_loopw [9, 10] (fun v i wr => ∃ j gs, j ≤ n ∧ i = .int .i64 (j : Nat) ∧ Hid (ConvRow wr w.heap.size v gs (ss.take j)) ∧ Below w.heap.size w wr) (fun _ i _ => n - (intOf i).toNat)
  case atStart => exact ⟨0, [], by omega, rfl, ConvRow.nil _ _, Below.refl _ _⟩
  case round =>
    obtain ⟨j, gs, hj, rfl, HL, hbel⟩ := hrel
    by_cases hjl : j < n
    · obtain ⟨s, hx⟩ : ∃ s, ss[j] = s := ⟨_, rfl⟩
      have hxg : (sv ss)[j]? = some (.string s) := by simp [sv, List.getElem?_eq_getElem (show j < ss.length by omega), hx]
      have hssz := hsz s (by rw [← hx]; exact List.getElem_mem _)
      obtain ⟨b, off, rfl, hc⟩ := (hs.below hbel).at_ j _ hxg
      have hroom := Lib.hid (slice_room (n := j) (m := 1) (by omega))
      have h63 := Lib.hid (show j + 1 ≤ maxLen by simp only [maxLen]; omega)
      have htk : Hid (ss.take (j + 1) = ss.take j ++ [s]) := by rw [Hid, List.take_succ_eq_append_getElem (show j < ss.length by omega), hx]
      have htl : (ss.take j).length = j := by rw [List.length_take]; omega
      have hbase := hbel.size
      have hcv := run_conv wr s
      obtain ⟨c, hcc⟩ : ∃ c, grownCap wr s.size 0 5 = c := ⟨_, rfl⟩
      have hsc : s.size ≤ c := by rw [← hcc]; exact grownCap_ge wr s.size 0 5
      rw [hcc] at hcv
      obtain ⟨o, ho⟩ : ∃ o, convObj s c = o := ⟨_, rfl⟩
      rw [ho] at hcv
      have HO := Lib.hid ho
      have hjs : (j : Int) < (ss.length : Int) := by omega
      clear hx hxg hcc ho
      have hown2 : Hid ((((wr.alloc o).alloc (.cells #[cv (wr.heap.size, c) s] 37)).drew).ownsRow w.heap.size 37 1 u9 j (cvs gs (ss.take j))) := by
        have := ((HL.out.own.alloc o).alloc (.cells #[cv (wr.heap.size, c) s] 37)).drew
        rwa [htl] at this
      have hsrc2 : Hid (Src (((wr.alloc o).alloc (.cells #[cv (wr.heap.size, c) s] 37)).drew) (some ⟨wr.heap.size + 1, 0, none⟩) [cv (wr.heap.size, c) s]) := Src.of_blk ((Blk.newAt (wr.alloc o) 37 [cv (wr.heap.size, c) s] (wr.heap.size + 1) (by simp)).drew)
      have hbel2 := ((hbel.alloc hbase o).alloc (size_alloc_le hbase _) (.cells #[cv (wr.heap.size, c) s] 37)).drew
      have hbase2 : w.heap.size ≤ (((wr.alloc o).alloc (.cells #[cv (wr.heap.size, c) s] 37)).drew).heap.size := hbel2.size
      have hone : Hid (∀ u ∈ [cv (wr.heap.size, c) s], u.oneCell' = true) := by
        intro u hu
        simp at hu
        subst hu
        rfl
      clear hbel
      go_wp2_with (at_builtin
                   refine wpList_append_src _ rfl (.tmp 42) (.tmp 48) 28 rfl w.heap.size 37 i0 (.slice none 0 0) 1 24 Tryd.underlying28 hi0 hz0 hz1 hz2 rfl (by decide) u9 j (cvs gs (ss.take j)) rfl hown2.out (some ⟨wr.heap.size + 1, 0, none⟩) 1 1 [cv (wr.heap.size, c) s] rfl rfl hsrc2.out hone.out h63.out hroom.out hbase2 ?_
                   intro v3 w3 hown3 hgrow3 hat3)
      refine ⟨⟨j + 1, gs ++ [(wr.heap.size, c)], by omega, by go_num, ?_, ?_⟩, by simp [intOf]; omega⟩
      · rw [htk.out]
        have ho := HO.out
        subst ho
        have hgrow4 : ((wr.alloc (convObj s c)).alloc (.cells #[cv (wr.heap.size, c) s] 37)).grownBy w3 u9.ownBlock := ⟨hgrow3.os, hgrow3.tape, hgrow3.output, hgrow3.size, hgrow3.block⟩
        refine HL.out.snoc hbase hsc ?_ hgrow4 hat3
        rw [htl]
        exact hown3
      · exact hbel2.grown hgrow3 hbase2 (fun g hg => (hown2.out.lt g hg).1)
    · obtain rfl : j = n := by omega
      obtain ⟨tt, htt⟩ : ∃ tt, ss.take j = tt := ⟨_, rfl⟩
      have htl : tt.length = j := by rw [← htt, List.length_take]; omega
      rw [htt] at HL
      have htsz : ∀ s ∈ tt, s.size ≤ 140737488351232 := fun s h => hsz s (by rw [← htt] at h; exact List.mem_of_mem_take h)
      have hCR := HL.out
      have hbt : Hid (∀ (k : Nat) (s : ByteArray), tt[k]? = some s → ss[k]? = some s) := by
        intro k s h
        rw [← htt, List.getElem?_take] at h
        split at h
        · exact h
        · cases h
      obtain ⟨g0, cap1, rfl, hg0, hc1⟩ := own_addr hCR.own (by omega)
      rw [htl]
      have hjpos : 0 < j := by omega
      clear htt HN hn hj hjl
      go_wp2_with fail
      refine (pick_any at_ j _ hjpos (by omega) hat).mono ?_
      rintro e w' ⟨⟨k, hk, rfl⟩, rfl⟩
      go_wp2_with fail
      have hR := plainRoot_any (bl tt) (some ⟨g0, 0, none⟩) cap1 wr (hCR.bb htsz) (by rw [bl_len]; exact hc1) (by rw [bl_len]; omega)
      rw [bl_len, htl] at hR
      refine hR.mono ?_
      rintro e w2 ⟨rfl, hb2⟩
      have h2 := hbel.trans (hb2.mono hbel.size)
      have hCR2 := hCR.below hb2
      clear hR
      go_wp2_with fail
      have hP := plainPath_good (bl tt) (some ⟨g0, 0, none⟩) cap1 k w2 (hG.below h2) (by rw [bl_len]; omega) (hCR2.bb htsz) (by rw [bl_len]; exact hc1) (by rw [bl_len]; omega)
      rw [bl_len, htl] at hP
      refine hP.mono ?_
      rintro e w3 ⟨rfl, hb3⟩
      have h3 := h2.trans (hb3.mono h2.size)
      have hCR3 := hCR2.below hb3
      clear hP
      obtain ⟨ps, hps⟩ : ∃ ps, Pl.path (bl tt) k = ps := ⟨_, rfl⟩
      obtain ⟨r, hr⟩ : ∃ r, Pl.root (bl tt) = r := ⟨_, rfl⟩
      have hpslen : ps.length = Pl.depth k j := by rw [← hps, Pl.path_length _ _ (by rw [bl_len]; omega), bl_len, htl]
      have hpslt : ∀ x ∈ ps, x < 4294967296 := fun x hx => by rw [← hps] at hx; have := Pl.path_lt _ _ x hx; omega
      obtain ⟨s, hsk⟩ : ∃ s, tt[k]? = some s := ⟨tt[k]'(by omega), List.getElem?_eq_getElem _⟩
      obtain ⟨g, hgk⟩ : ∃ g, (gs)[k]? = some g := ⟨gs[k]'(by rw [hCR.len]; omega), List.getElem?_eq_getElem _⟩
      have hclimb : Pl.climb s.data.toList k j ps = r := by
        rw [← hps, ← hr]
        exact Pl.climb_path (bl tt) k j s.data.toList (by rw [bl_len, htl]) (by simp [bl, hsk])
      have hrlt := Pl.root_lt (bl tt)
      rw [hr] at hrlt
      have hssz := htsz s (List.mem_of_getElem? hsk)
      have hbt2 := hbt.out k s hsk
      rw [hps, hr]
      unfold errA
      have hcell : w3.cell? ⟨g0, k, none⟩ = some (.slice (some ⟨g.1, 0, none⟩) s.size g.2) := own_at hCR3.own k _ (cvs_get hgk hsk)
      have hglt := World.block_lt_of_cell? _ _ hcell
      obtain ⟨hsg, hconv3⟩ := hCR3.blk k g s hgk hsk
      obtain ⟨bs, offs, hAs, hcs⟩ := hs.at_ k (.string s) (by simp [sv, hbt2])
      subst hAs
      have hbslt := World.block_lt_of_cell? _ _ hcs
      have hk0 : (0 : Int) ≤ (k : Int) := by omega
      have hk1 : (k : Int) < (j : Int) := by omega
      have hk2 : (k : Int) < (ss.length : Int) := by omega
      have H3 := Lib.hid h3
      have hx3 := h3.size
      have HS := Lib.hid hcs
      have HCV := Lib.hid hconv3
      clear hCR hCR2 hCR3 HL hb2 hb3 h2 h3 hbel hps hr hbt2 hsk hgk hcs hconv3 hbt
      go_wp2_with fail
      have hB3 := Blk.new w3 24 [.int .i64 (0 : Nat), .string ⟨#[]⟩, .bool true]
      have hb3' := (Below.refl w3.heap.size w3).alloc (Nat.le_refl _) (.cells #[.int .i64 (0 : Nat), .string ⟨#[]⟩, .bool true] 24)
      have h3' := H3.out.trans (hb3'.mono hx3)
      have hcv3 := (hb3'.block _ (heap_lt HCV.out)).trans HCV.out
      refine (plainClimb_path s (some ⟨g.1, 0, none⟩) g.2 k j ps _ (hG.below h3') hssz hk (by omega) hpslen hpslt (conv_bytes hcv3)).mono ?_
      rintro e w4 ⟨rfl, hb4⟩
      rw [hclimb]
      have hB4 := hB3.below hb4 hB3.lt
      have h4 := h3'.trans (hb4.mono h3'.size)
      have H4 := Lib.hid h4
      have hx4 := h4.size
      have HB4 := Lib.hid hB4
      clear hb3' h3' hcv3 hB3 hB4 hb4 h4 hcell
      unfold errA
      have hcv := run_conv
      go_wp2_with fail
      clear hcv
      obtain ⟨c, hc⟩ : ∃ c, grownCap (w4.alloc errZ) other.size 0 5 = c := ⟨_, rfl⟩
      have hB4z : Blk (w4.alloc errZ) w4.heap.size 24 [.int .i64 0, .string ⟨#[]⟩, .bool true] := Blk.new w4 _ _
      have h4' := (H4.out.alloc hx4 errZ)
      have h4'' := (h4'.alloc h4'.size (convObj other c)).drew
      have hconv4 : (((w4.alloc errZ).alloc (convObj other c)).drew).heap[w4.heap.size + 1]? = some (convObj other c) := heap_newAt (w := w4.alloc errZ) (by simp)
      have HC5 := plainClimb_path other (some ⟨w4.heap.size + 1, 0, none⟩) c k j ps _ (hG.below h4'') hother hk (by omega) hpslen hpslt (conv_bytes hconv4)
      rw [← hc] at HC5 hconv4 h4''
      refine HC5.mono ?_
      rintro e w5 ⟨rfl, hb5⟩
      have hBe := ((((HB4.out.alloc errZ).alloc (convObj other (grownCap (w4.alloc errZ) other.size 0 5))).drew).below hb5 (Nat.lt_of_lt_of_le HB4.out.lt (by simp; omega)))
      have hBf := (((hB4z.alloc (convObj other (grownCap (w4.alloc errZ) other.size 0 5))).drew).below hb5 (by simp; omega))
      have h5 := h4''.trans (hb5.mono h4''.size)
      have H5 := Lib.hid h5
      have hx5 := h5.size
      obtain ⟨c0, c1, c2, f0, f1, f2⟩ := facts3 hBe
      have hlte := hBe.lt
      have HBf := Lib.hid (hBf.alloc errZ)
      have HBx := Lib.hid (show Blk (w5.alloc errZ) w5.heap.size 24 [.int .i64 0, .string ⟨#[]⟩, .bool true] from Blk.new w5 _ _)
      clear HC5 hc hB4z h4' h4'' hconv4 hb5 h5 HB4 hBe hBf
      unfold errA
      go_wp2_with fail
      refine (fine_any 0 ⟨#[]⟩ _).mono ?_
      rintro e w6 ⟨rfl, hb6⟩
      have h5z := H5.out.alloc hx5 errZ
      have H6 := Lib.hid (h5z.trans (Below.mono hb6 h5z.size))
      have HBf6 := Lib.hid (HBf.out.below hb6 HBf.out.lt)
      have HBx6 := Lib.hid (HBx.out.below hb6 HBx.out.lt)
      clear c0 c1 c2 f0 f1 f2 hb6 h5z HBf HBx
      obtain ⟨c0, c1, c2, f0, f1, f2⟩ := facts3 HBf6.out
      go_wp2_with fail
      refine (fine_any 0 ⟨#[]⟩ _).mono ?_
      rintro e w7 ⟨rfl, hb7⟩
      have H7 := Lib.hid (H6.out.trans (hb7.mono H6.out.size))
      have HBx7 := Lib.hid (HBx6.out.below hb7 HBx6.out.lt)
      clear c0 c1 c2 f0 f1 f2 hb7
      obtain ⟨c0, c1, c2, f0, f1, f2⟩ := facts3 HBx7.out
      go_wp2_with fail
      refine (fine_any 0 ⟨#[]⟩ _).mono ?_
      rintro e w8 ⟨rfl, hb8⟩
      have H8 := Lib.hid (H7.out.trans (hb8.mono H7.out.size))
      clear c0 c1 c2 f0 f1 f2 hb8 HBx7 HBx6 HBf6
      have hrs := hstr_size r
      have hcs8 : w8.cell? ⟨bs, offs + k, none⟩ = some (.string s) := (H8.out.cell (p := ⟨bs, offs + k, none⟩) hbslt).trans HS.out
      obtain ⟨so, hso⟩ : ∃ so, tstr (0 :: other.data.toList) = so := ⟨_, rfl⟩
      obtain ⟨sl, hsl⟩ : ∃ sl, tstr (0 :: s.data.toList) = sl := ⟨_, rfl⟩
      have hlo : other.data.toList.length = other.size := rfl
      have hls : s.data.toList.length = s.size := rfl
      have hcat1 : ∀ w, (Op.stringOp .add ⟨#[0]⟩ other).run Tryd.prog w = .ok (.string so) w := by
        intro w
        have := run_cat w [0] other.data.toList (by simp; omega)
        rw [tstr_back] at this
        rw [← hso]
        exact this
      have hcat2 : ∀ w, (Op.stringOp .add ⟨#[0]⟩ s).run Tryd.prog w = .ok (.string sl) w := by
        intro w
        have := run_cat w [0] s.data.toList (by simp; omega)
        rw [tstr_back] at this
        rw [← hsl]
        exact this
      have hzo : so.size ≤ 9223372036854775807 := by rw [← hso, tstr_size]; simp; omega
      have hzl : sl.size ≤ 9223372036854775807 := by rw [← hsl, tstr_size]; simp; omega
      have HSO := Lib.hid (show so.data.toList = 0 :: other.data.toList by rw [← hso]; rfl)
      have HSL := Lib.hid (show sl.data.toList = 0 :: s.data.toList by rw [← hsl]; rfl)
      have hcv := run_conv
      clear hso hsl hlo hls
      go_wp2_with fail
      refine (plainSum_conv so _ HSO.out hzo _ _ _ (conv_bytes_of (w := (w8.alloc (convObj so (grownCap w8 so.size 0 5))).drew) (cap := grownCap w8 so.size 0 5) (heap_newAt (w := w8) rfl) HSO.out)).mono ?_
      rintro e w9 ⟨rfl, hb9⟩
      have h8z := (H8.out.alloc H8.out.size (convObj so (grownCap w8 so.size 0 5))).drew
      have H9 := Lib.hid (h8z.trans (hb9.mono h8z.size))
      have hcs9 : w9.cell? ⟨bs, offs + k, none⟩ = some (.string s) := (H9.out.cell (p := ⟨bs, offs + k, none⟩) hbslt).trans HS.out
      clear hb9 h8z hcs8
      go_wp2_with fail
      refine (plainSum_conv sl _ HSL.out hzl _ _ _ (conv_bytes_of (w := (w9.alloc (convObj sl (grownCap w9 sl.size 0 5))).drew) (cap := grownCap w9 sl.size 0 5) (heap_newAt (w := w9) rfl) HSL.out)).mono ?_
      rintro e w10 ⟨rfl, hb10⟩
      have h9z := (H9.out.alloc H9.out.size (convObj sl (grownCap w9 sl.size 0 5))).drew
      have H10 := Lib.hid (h9z.trans (hb10.mono h9z.size))
      clear hb10 h9z hcs9
      by_cases he : Pl.sumN (0 :: other.data.toList) = Pl.sumN (0 :: s.data.toList)
      · have hg2 : Pl.climb other.data.toList k j ps = r := by rw [Pl.climb_same _ _ he, hclimb]
        rw [he, hg2]
        clear he hg2
        go_wp2_with fail
        go_ret
        exact ⟨rfl, H10.out⟩
      · have hne : ¬ hstr (Pl.sumN (0 :: other.data.toList)) = hstr (Pl.sumN (0 :: s.data.toList)) := fun e => he (hstr_inj (by have := Pl.sumN_lt (0 :: other.data.toList); omega) (by have := Pl.sumN_lt (0 :: s.data.toList); omega) e)
        obtain ⟨a, ha⟩ : ∃ a, hstr (Pl.sumN (0 :: other.data.toList)) = a := ⟨_, rfl⟩
        obtain ⟨b, hb⟩ : ∃ b, hstr (Pl.sumN (0 :: s.data.toList)) = b := ⟨_, rfl⟩
        rw [ha, hb] at hne ⊢
        have hnl : (a.toList == b.toList) = false := by
          rw [beq_eq_false_iff_ne]
          intro e
          rw [ByteArray.toList_eq, ByteArray.toList_eq] at e
          exact hne (by cases a; cases b; simp at e; rw [e])
        clear ha hb he hne
        go_wp2_with fail
        go_ret
        exact ⟨rfl, H10.out⟩
end Go.Proofs.YtdiainkokgpldaaDoor
