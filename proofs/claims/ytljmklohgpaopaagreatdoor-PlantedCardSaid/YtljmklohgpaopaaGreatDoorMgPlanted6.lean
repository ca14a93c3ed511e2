/- The walks of the log's read, slot, sector, own; of octets' Get of a text. The walks of the log's placed, Create, do, Sync. The walk of the reference's Extends. The walk of the reference's Attested. The walk of chain.Attested. The walks of daybook's and plain's Extends and Attested; of the harness's four. The walks of the log's Create, do, Sync, Reset. The walks of the log's Sync, Reset. The walks of the disk's New, Copy. Plain: two pasts under one digest show two texts with one sum. No program in sight. The walks of sums.byOne, sums.Check and of the reference's Check. The walks of the codec's Must, IsName, IsValue, and of the document's. The walks of the codec's Num of eight bytes, IsValue, Name, Value. The walk of the codec's Value. The walk of the codec's Row. The walk of the codec's AreColumns: a map that the call makes counts the names. The walk of the codec's AreColumns. The walk of the codec's Columns. The codec's op: what the walk needs of the plain side. The walk of the codec's op. Laws over any program: in a region that draws its order a load may be taken first of a cell that the region itself writes behind an operation that waits for the load. The codec's Read: what the walk needs of the plain side. The walk of the codec's Read. -/
import Derived.Test.YtljmklohgpaopaaGreatDoorMgPlanted5
import Derived.Deep.QuietTactic
import Derived.BigQuiet
import Derived.Deep.RegionHeld3
import Derived.LoopTactic
import Derived.Test.YtljmklohgpaopaaGreatDoorMgPlanted1
import Derived.Deep.RegionWith
import Derived.Test.YtljmklohgpaopaaGreatDoorMgPlanted4
import Derived.Lib.AppendStr
import Derived.Maps.OwnOps
import Derived.Maps.Views
import Derived.WalkKit
import Derived.OrdersHeld
import Derived.Deep.RegionHeld
set_option linter.unusedVariables false
set_option linter.unusedSimpArgs false

namespace Go.Proofs.YtljmklohgpaopaaGreatDoor
open Go.RowKit

set_option maxHeartbeats 1000000 in
theorem getS_any (l : List UInt8) (w : World) (hl : l.length ≤ 8) :
    Calls Tryz.prog 86 #[.string (tstr l)] w fun e w' => e = .returned (.int .u64 (Pl.num l : Nat)) ∧ w = w' := by
  obtain ⟨s, hs⟩ : ∃ s, tstr l = s := ⟨_, rfl⟩
  have hsz : s.size = l.length := by rw [← hs, tstr_size]
  have hget : ∀ (k : Nat) (h : k < l.length) (h' : k < s.size), s[k] = l[k] := by
    intro k h h'
    subst hs
    rfl
  have HG := Lib.hid hget
  rw [hs]
  have hsi : (s.size : Int) = l.length := by omega
  have HSZ := Lib.hid hsz
  clear hs hget hsz
  go_enter Tryz.func86, Tryz.ntmps86
  go_wp2_with fail
  go_loop [3, 7] (fun v i => ∃ k : Nat, k ≤ l.length ∧ i = .int .i64 k ∧ v = .int .u64 (Pl.num (l.take k) : Nat)) (fun _ i => l.length - (intOf i).toNat)
  case atStart => exact ⟨0, Nat.zero_le _, rfl, rfl⟩
  case round =>
    obtain ⟨k, hk, rfl, rfl⟩ := hrel
    by_cases hlt : k < l.length
    · have hlt' : k < s.size := by rw [HSZ.out]; exact hlt
      have hn1 := Pl.num_take_lt l k
      have hn2 : Pl.num (l.take k) < 72057594037927936 := Nat.lt_of_lt_of_le hn1 (Nat.pow_le_pow_right (n := 256) (j := 7) (by decide) (by omega))
      have hc := l[k].toNat_lt
      have hnext : Hid (Pl.num (l.take (k + 1)) = 256 * Pl.num (l.take k) + l[k].toNat) := by rw [Hid, take_snoc l k hlt, Pl.num_snoc]
      obtain ⟨c, hcc⟩ : ∃ c, s[k] = c := ⟨_, rfl⟩
      have hcl : l[k].toNat = c.toNat := by rw [← hcc, HG.out k hlt hlt']
      obtain ⟨v, hv⟩ : ∃ v, Pl.num (l.take k) = v := ⟨_, rfl⟩
      have hnext' : Hid (Pl.num (l.take (k + 1)) = 256 * v + c.toNat) := by rw [← hv, ← hcl]; exact hnext
      have hc8 := c.toNat_lt
      rw [hv] at hn2 ⊢
      clear hn1 hnext hv hcl hc
      go_wp2_with fail
      refine ⟨⟨k + 1, by omega, by simp, ?_⟩, by simp [intOf]; omega⟩
      rw [hnext'.out, or_byte v c.toNat hn2 (by omega)]
    · obtain rfl : k = l.length := by omega
      rw [List.take_length]
      go_wp2_with fail
      go_ret
      exact ⟨rfl, rfl⟩

def Rds (rd rd' : Int) : Prop := 0 ≤ rd → rd < 4611686018427387904 → 0 ≤ rd' ∧ rd' ≤ rd + 1

end Go.Proofs.YtljmklohgpaopaaGreatDoor

namespace Go.Proofs.YtljmklohgpaopaaGreatDoor
open Go.RowKit

namespace Pl
end Pl

theorem Blk.uniqT {w : World} {g : Nat} {t t' : TypeId} {cs cs' : List Value} (h : Blk w g t cs) (h' : Blk w g t' cs') : t = t' := by
  unfold Blk at h h'
  rw [h] at h'
  injection h' with h'
  injection h' with _ h'
end Go.Proofs.YtljmklohgpaopaaGreatDoor

namespace Go.Proofs.YtljmklohgpaopaaGreatDoor
open Go.RowKit

end Go.Proofs.YtljmklohgpaopaaGreatDoor

namespace Go.Proofs.YtljmklohgpaopaaGreatDoor
open Go.RowKit

end Go.Proofs.YtljmklohgpaopaaGreatDoor

namespace Go.Proofs.YtljmklohgpaopaaGreatDoor
open Go.RowKit

end Go.Proofs.YtljmklohgpaopaaGreatDoor

namespace Go.Proofs.YtljmklohgpaopaaGreatDoor
open Go.RowKit

theorem results_err1 {fn : Func} {t : Tmp} {tmps : Array Value} {w : World} {g : Nat} {k : Int} {u : ByteArray} (h : fn.results = #[.cell t 28]) (ht : tmps.getD t undef = .pointer (some ⟨g, 0, none⟩)) (hB : Blk w g 28 [.int .i64 k, .string u, .bool true]) :
    (results fn tmps).run Tryz.prog w = .ok (errA k u) w := by
  have c0 := hB.cell 0
  have c1 := hB.cell 1
  have c2 := hB.cell 2
  simp only [List.getElem?_cons_succ, List.getElem?_cons_zero] at c0 c1 c2
  simp only [Array.getD_eq_getD_getElem?] at ht
  simp [results, h, ht, go_sem, c0, c1, c2, errA, asAddr]

theorem own_low {w : World} {base base' n size : Nat} {e : TypeId} {v : Value} {xs : List Value} (h : w.ownsRow base e size v n xs) (hb : base' ≤ base) : w.ownsRow base' e size v n xs := by
  refine ⟨h.1, ?_⟩
  rcases h.2 with hn | ⟨g, cap, cur, hv, hg, rest⟩
  · exact .inl hn
  · exact .inr ⟨g, cap, cur, hv, Nat.le_trans hb hg, rest⟩
end Go.Proofs.YtljmklohgpaopaaGreatDoor

namespace Go.Proofs.YtljmklohgpaopaaGreatDoor
open Go.RowKit

/-- The error of a kind (0: none). -/
def errK (k : Nat) : Value := if k = 0 then .nilIface else kindE k
theorem errK_err (w : World) (k : Nat) : ErrV w (errK k) k ⟨#[]⟩ := by
  unfold errK
  split
  · next h => subst h; exact ErrV.nil w
  · exact ErrV.kind w k
end Go.Proofs.YtljmklohgpaopaaGreatDoor

namespace Go.Proofs.YtljmklohgpaopaaGreatDoor
open Go.RowKit

/-- Block k holds cells of this element type. -/
def Typ (w : World) (k : Nat) (t : TypeId) : Prop := ∃ cs fz, w.heap[k]? = some (.cells cs t fz)
theorem Typ.uniq {w : World} {k : Nat} {t t' : TypeId} (h : Typ w k t) (h' : Typ w k t') : t = t' := by
  obtain ⟨cs, fz, h⟩ := h
  obtain ⟨cs', fz', h'⟩ := h'
  rw [h] at h'
  injection h' with h'
  injection h' with _ h'
theorem Blk.typ {w : World} {k : Nat} {t : TypeId} {cs : List Value} (h : Blk w k t cs) : Typ w k t := ⟨_, _, h⟩
theorem Blk.ne {w : World} {a b : Nat} {t t' : TypeId} {cs cs' : List Value} (h : Blk w a t cs) (h' : Blk w b t' cs') (ht : t ≠ t') : a ≠ b := by
  rintro rfl
  exact ht (h.uniqT h')
theorem own_typ {w : World} {base size n g : Nat} {e : TypeId} {v : Value} {xs : List Value} (h : w.ownsRow base e size v n xs) (hv : v.ownBlock = some g) : Typ w g e := by
  rcases h.2 with ⟨rfl, _⟩ | ⟨g', cap, cur, rfl, _, hg, _⟩
  · cases hv
  · have : g' = g := by simpa [Value.ownBlock] using hv
    subst this
    exact ⟨_, _, hg⟩
/-- The blocks of F are of these types. -/
def Kinds (F : Nat → Prop) (w : World) (ts : List TypeId) : Prop := ∀ k, F k → ∃ t, t ∈ ts ∧ Typ w k t
theorem DiskAt.kinds {w : World} {g : Nat} {v : Value} {d : Pl.Dk} {rd : Int} (h : DiskAt w g v d rd) : Kinds (dF g v) w [102, 104] := by
  obtain ⟨wr, sy, hg⟩ := h.blk
  rintro k (rfl | hk)
  · exact ⟨_, by simp, hg.typ⟩
  · exact ⟨_, by simp, own_typ h.own hk⟩
theorem Only.blk_ {F : Nat → Prop} {w w' : World} {k : Nat} {t : TypeId} {cs : List Value} {ts : List TypeId} (ho : Only F w w') (hF : Kinds F w ts) (h : Blk w k t cs) (ht : t ∉ ts) : Blk w' k t cs :=
  ho.blk h (fun hk => by obtain ⟨t', h1, h2⟩ := hF k hk; exact ht (h.typ.uniq h2 ▸ h1))
theorem Only.own_ {F : Nat → Prop} {w w' : World} {base n size : Nat} {e : TypeId} {v : Value} {xs : List Value} {ts : List TypeId} (ho : Only F w w') (hF : Kinds F w ts) (h : w.ownsRow base e size v n xs) (ht : e ∉ ts) : w'.ownsRow base e size v n xs :=
  ho.own h (fun g hg hk => by obtain ⟨t', h1, h2⟩ := hF g hk; exact ht ((own_typ h hg).uniq h2 ▸ h1))
theorem facts1 {w : World} {g : Nat} {t : TypeId} {a0 : Value} (h : Blk w g t [a0]) : w.cell? ⟨g, 0, none⟩ = some a0 ∧ w.frozen? ⟨g, 0, none⟩ = false := ⟨h.cell 0, h.frozen 0⟩

end Go.Proofs.YtljmklohgpaopaaGreatDoor

namespace Go.Proofs.YtljmklohgpaopaaGreatDoor
open Go.RowKit

theorem Tryz.infoSector : (Tryz.prog.info? 104).map (fun i => (i.zero, i.size, i.bytes)) = some (some (.agg #[.string ⟨#[]⟩, .string ⟨#[]⟩, .bool false, .bool false, .bool false]), 5, 40) := by kernel_rfl
theorem sector_room {n m : Nat} (h : n + m ≤ 4398046511104) : ∀ old, old < n + m → Builtin.nextslicecap (n + m) old * 40 ≤ 281474976710656 := by
  intro old ho
  have := nextslicecap_le54 ho
  omega
theorem secsCells_one (l : List Pl.Sec) : ∀ u ∈ secsCells l, u.oneCell' = true := by
  intro u hu
  unfold secsCells at hu
  rw [List.mem_flatMap] at hu
  obtain ⟨s, _, hs⟩ := hu
  simp only [secCells, List.mem_cons, List.not_mem_nil, or_false] at hs
  rcases hs with rfl | rfl | rfl | rfl | rfl <;> rfl

set_option maxHeartbeats 1000000 in
set_option maxRecDepth 100000 in
theorem copy_any (g : Nat) (v : Value) (d : Pl.Dk) (rd : Int) (w : World) (h : DiskAt w g v d rd) :
    Calls Tryz.prog 24 #[.pointer (some ⟨g, 0, none⟩)] w fun e w' => ∃ g' v', e = .returned (.pointer (some ⟨g', 0, none⟩)) ∧ DiskAt w' g' v' d rd ∧ Below w.heap.size w w' ∧ ∀ k, dF g' v' k → w.heap.size ≤ k := by
  have hm := h.most
  obtain ⟨wr, sy, hb⟩ := h.blk
  obtain ⟨c0, c1, c2, c3, c4, f0, f1, f2, f3, f4⟩ := facts5 hb
  obtain ⟨A, cap, rfl, hc, hs, _⟩ := own_src h.own
  have H := Lib.hid h
  obtain ⟨i0, hi, hz0, hz1, hz2⟩ := info_parts Tryz.infoSector
  have HI := Lib.hid (And.intro hi (And.intro hz0 (And.intro hz1 hz2)))
  obtain ⟨w1, hw1⟩ : ∃ w1, w.alloc (.cells #[.slice A d.secs.length cap, .int .i64 d.life, .int .i64 rd, .int .i64 wr, .int .i64 sy] 102) = w1 := ⟨_, rfl⟩
  have hb1 : Below w.heap.size w w1 := by rw [← hw1]; exact (Below.refl _ _).alloc (Nat.le_refl _) _
  have B1 : Blk w1 w.heap.size 102 [.slice A d.secs.length cap, .int .i64 d.life, .int .i64 rd, .int .i64 wr, .int .i64 sy] := by rw [← hw1]; exact Blk.new w 102 _
  obtain ⟨k0, _, _, _, _, _⟩ := facts5 (hb.below hb1 hb.lt)
  obtain ⟨e0, e1, e2, e3, e4, q0, q1, q2, q3, q4⟩ := facts5 B1
  have HB1 := Lib.hid hb1
  have HBK := Lib.hid B1
  have HS1 := Lib.hid (hs.below hb1)
  have h63 : Hid (0 + d.secs.length ≤ maxLen) := by rw [Hid]; simp only [maxLen]; omega
  have hroom := Lib.hid (sector_room (n := 0) (m := d.secs.length) (by omega))
  have hs1 := hb1.size
  clear h hi hz0 hz1 hz2 hb hs hb1 B1
  go_enter Tryz.func24, Tryz.ntmps24
  go_wp2_with (at_builtin
               refine wpList_append_src _ rfl (.const (.slice none 0 0)) (.tmp 10) 100 rfl w1.heap.size 104 i0 _ 5 40 Tryz.underlying100 HI.out.1 HI.out.2.1 HI.out.2.2.1 HI.out.2.2.2 rfl (by decide) (.slice none 0 0) 0 [] rfl (World.ownsRow_nil _ _ _ _) A d.secs.length cap (secsCells d.secs) rfl (secsCells_length _) HS1.out (secsCells_one _) h63.out hroom.out (Nat.le_refl _) ?_
               intro v2 w2 hown2 hgrow2 hat2
               rw [Nat.zero_add, List.nil_append] at hown2
               obtain ⟨A2, cap2, rfl, _, _, _⟩ := own_src hown2
               have hb2 : Below w1.heap.size w1 w2 := ⟨hgrow2.os, hgrow2.tape, hgrow2.output, hgrow2.size, fun x hx => hgrow2.block x hx (fun e => by cases e)⟩
               have HB2 := Lib.hid hb2
               have HO2 := Lib.hid hown2
               have HBK2 := Lib.hid (HBK.out.below hb2 HBK.out.lt)
               obtain ⟨x0, _, _, _, _, y0, _, _, _, _⟩ := facts5 HBK2.out
               clear hown2 hgrow2 hat2 hb2)
  go_ret
  have hlt : w.heap.size < w1.heap.size := HBK.out.lt
  have hfar : ∀ x, (Value.slice A2 d.secs.length cap2).ownBlock = some x → w1.heap.size ≤ x := fun x hx => (HO2.out.lt x hx).1
  have hne : ∀ x, (Value.slice A2 d.secs.length cap2).ownBlock = some x → x ≠ w.heap.size := fun x hx => by have := hfar x hx; omega
  refine ⟨w.heap.size, _, rfl, ⟨hm, H.out.sized, H.out.life, fun e => hne _ e rfl, ?_, wr, sy, HBK2.out.set_ 0 _⟩, (HB1.out.trans (HB2.out.mono hs1)).setCell (p := ⟨w.heap.size, 0, none⟩) (Nat.le_refl _) _, ?_⟩
  · exact Only.own ((Only.refl (· = w.heap.size) w2).setCell (p := ⟨w.heap.size, 0, none⟩) (.inl rfl) _) (own_low HO2.out (Nat.zero_le _)) (fun k hk e => hne k hk e)
  · rintro k (rfl | hk)
    · exact Nat.le_refl _
    · exact Nat.le_trans hs1 (hfar k hk)

theorem new_secs (m : Nat) : secsCells (List.replicate (m + 1) Pl.Sec.empty) = secsCells (List.replicate m Pl.Sec.empty) ++ secCells Pl.Sec.empty := by
  rw [List.replicate_succ', secsCells_append]
  simp [secsCells]
theorem most_le (n : Int) : Pl.most n ≤ 4096 := by
  unfold Pl.most
  by_cases h : n < 0
  · rw [if_pos h]; omega
  · rw [if_neg h]
    by_cases h' : 4096 < n
    · rw [if_pos h']; omega
    · rw [if_neg h']; omega
/-- A disk that is being made. -/
structure NewAt (w : World) (g : Nat) (v : Value) (k : Nat) : Prop where
  far : v.ownBlock ≠ some g
  own : w.ownsRow (g + 1) 104 5 v k (secsCells (List.replicate k Pl.Sec.empty))
  blk : Blk w g 102 [v, .int .i64 (-1), .int .i64 0, .int .i64 0, .int .i64 0]

set_option maxHeartbeats 2000000 in
set_option maxRecDepth 100000 in
theorem new_any (n : Int) (w : World) :
    Calls Tryz.prog 17 #[.int .i64 n] w fun e w' => ∃ v', e = .returned (.pointer (some ⟨w.heap.size, 0, none⟩)) ∧ DiskAt w' w.heap.size v' (Pl.Dk.new n) 0 ∧ Below w.heap.size w w' ∧ ∀ k, dF w.heap.size v' k → w.heap.size ≤ k := by
  have hmk := make_bytes 256 256 (by omega) (by omega)
  obtain ⟨w1, hw1⟩ : ∃ w1, w.alloc (.cells #[.slice none 0 0, .int .i64 (-1), .int .i64 0, .int .i64 0, .int .i64 0] 102) = w1 := ⟨_, rfl⟩
  have hb1 : Below w.heap.size w w1 := by rw [← hw1]; exact (Below.refl _ _).alloc (Nat.le_refl _) _
  have B1 : Blk w1 w.heap.size 102 [.slice none 0 0, .int .i64 (-1), .int .i64 0, .int .i64 0, .int .i64 0] := by rw [← hw1]; exact Blk.new w 102 _
  have hsz1 : w1.heap.size = w.heap.size + 1 := by rw [← hw1]; simp
  have HB1 := Lib.hid hb1
  have HBK := Lib.hid B1
  obtain ⟨w2, hw2⟩ : ∃ w2, w1.alloc (.cells (zrow 256).toArray 5) = w2 := ⟨_, rfl⟩
  have hb2 : Below w1.heap.size w1 w2 := by rw [← hw2]; exact (Below.refl _ _).alloc (Nat.le_refl _) _
  have hcv : (convert 25 9 (.slice (some ⟨w1.heap.size, 0, none⟩) 256 256)).run Tryz.prog w2 = .ok (.string (tstr (Pl.zeros 256))) w2 := by
    rw [← hw2]
    have := run_tostr (w1.alloc (.cells (zrow 256).toArray 5)) (some ⟨w1.heap.size, 0, none⟩) (List.replicate 256 0) 256 (zeros_at _ _)
    rw [List.length_replicate] at this
    exact this
  have HB2 := Lib.hid hb2
  have hs2 := hb2.size
  obtain ⟨Z, hZ⟩ : ∃ Z, tstr (Pl.zeros 256) = Z := ⟨_, rfl⟩
  rw [hZ, hsz1] at hcv
  have HZ := Lib.hid hZ
  obtain ⟨i0, hi, hz0, hz1, hz2⟩ := info_parts Tryz.infoSector
  have HI := Lib.hid (And.intro hi (And.intro hz0 (And.intro hz1 hz2)))
  clear hi hz0 hz1 hz2 hb1 hb2 B1 hZ
  by_cases h1 : n < 0
  · have HM : Hid (Pl.most n = 0) := by unfold Pl.most; rw [Hid, if_pos h1]
    go_enter Tryz.func17, Tryz.ntmps17
    go_wp2_with fail
    go_loopw [5] (fun i W => ∃ (k : Nat) (v : Value), k ≤ 0 ∧ i = .int .i64 (k : Int) ∧ Hid (NewAt W w.heap.size v k) ∧ Hid (Below w.heap.size w W)) (fun i _ => 0 - (intOf i).toNat)
    case atStart =>
      refine ⟨0, .slice none 0 0, Nat.zero_le _, rfl, ⟨(fun e => by cases e), World.ownsRow_nil _ _ _ _, HBK.out.below HB2.out HBK.out.lt⟩, HB1.out.trans (HB2.out.mono HB1.out.size)⟩
    case round =>
      obtain ⟨k, v, hk, rfl, HN, HB⟩ := hrel
      obtain ⟨A, cap, rfl, _, _, _⟩ := own_src HN.out.own
      obtain ⟨c0, c1, c2, c3, c4, f0, f1, f2, f3, f4⟩ := facts5 HN.out.blk
      have hgl := HN.out.blk.lt
      by_cases hkm : k < 0
      · exact absurd hkm (by omega)
      · obtain rfl : k = 0 := by omega
        go_wp2_with fail
        go_ret
        refine ⟨_, rfl, ⟨?_, fun s hs => ?_, ⟨by show (-1 : Int) ≤ -1; omega, by show (-1 : Int) ≤ 9223372036854775807; omega⟩, HN.out.far, ?_, 0, 0, HN.out.blk⟩, HB.out, fun y hy => ?_⟩
        · show (List.replicate _ _).length ≤ 4096
          rw [List.length_replicate]
          exact most_le _
        · have : s = Pl.Sec.empty := List.eq_of_mem_replicate hs
          rw [this]
          exact ⟨by simp [Pl.Sec.empty, Pl.zeros], by simp [Pl.Sec.empty, Pl.zeros]⟩
        · show World.ownsRow _ 0 _ 5 _ (List.replicate _ _).length (secsCells (List.replicate _ _))
          rw [HM.out, List.length_replicate]
          exact own_low HN.out.own (Nat.zero_le _)
        · rcases hy with rfl | hy
          · exact Nat.le_refl _
          · have := (HN.out.own.lt y hy).1
            omega
  · by_cases h2 : 4096 < n
    · have HM : Hid (Pl.most n = 4096) := by unfold Pl.most; rw [Hid, if_neg h1, if_pos h2]
      go_enter Tryz.func17, Tryz.ntmps17
      go_wp2_with fail
      go_loopw [5] (fun i W => ∃ (k : Nat) (v : Value), k ≤ 4096 ∧ i = .int .i64 (k : Int) ∧ Hid (NewAt W w.heap.size v k) ∧ Hid (Below w.heap.size w W)) (fun i _ => 4096 - (intOf i).toNat)
      case atStart =>
        refine ⟨0, .slice none 0 0, Nat.zero_le _, rfl, ⟨(fun e => by cases e), World.ownsRow_nil _ _ _ _, HBK.out.below HB2.out HBK.out.lt⟩, HB1.out.trans (HB2.out.mono HB1.out.size)⟩
      case round =>
        obtain ⟨k, v, hk, rfl, HN, HB⟩ := hrel
        obtain ⟨A, cap, rfl, _, _, _⟩ := own_src HN.out.own
        obtain ⟨c0, c1, c2, c3, c4, f0, f1, f2, f3, f4⟩ := facts5 HN.out.blk
        have hgl := HN.out.blk.lt
        by_cases hkm : k < 4096
        · have h63 : Hid (k + 1 ≤ maxLen) := by rw [Hid]; simp only [maxLen]; omega
          have hroom := Lib.hid (sector_room (n := k) (m := 1) (by omega))
          clear c1 c2 c3 c4 f1 f2 f3 f4
          go_wp2_with (at_builtin
                       obtain ⟨w3, hw3⟩ : ∃ w3, wr.alloc (.cells #[.string Z, .string Z, .bool false, .bool false, .bool false] 104) = w3 := ⟨_, rfl⟩
                       have hb3 : Below wr.heap.size wr w3 := by rw [← hw3]; exact (Below.refl _ _).alloc (Nat.le_refl _) _
                       have HSR3 : Hid (Src w3 (some ⟨wr.heap.size, 0, none⟩) (secCells Pl.Sec.empty)) := by
                         rw [Hid, ← hw3]
                         have : secCells Pl.Sec.empty = [.string Z, .string Z, .bool false, .bool false, .bool false] := by rw [← HZ.out]; rfl
                         rw [this]
                         exact Src.of_blk (Blk.new wr 104 _)
                       have HB3 := Lib.hid hb3
                       have hs3 := hb3.size
                       rw [hw3]
                       clear hb3 hw3
                       refine wpList_append_src _ rfl (.tmp 23) (.tmp 27) 100 rfl (w.heap.size + 1) 104 i0 _ 5 40 Tryz.underlying100 HI.out.1 HI.out.2.1 HI.out.2.2.1 HI.out.2.2.2 rfl (by decide) (.slice A k cap) k (secsCells (List.replicate k Pl.Sec.empty)) rfl (own_below HN.out.own HB3.out) (some ⟨wr.heap.size, 0, none⟩) 1 1 (secCells Pl.Sec.empty) rfl rfl HSR3.out (by intro u hu; exact secsCells_one [Pl.Sec.empty] u (by simpa [secsCells] using hu)) h63.out hroom.out (by omega) ?_
                       intro v4 w4 hown4 hgrow4 hat4
                       have hbk4 := (HN.out.blk.below HB3.out HN.out.blk.lt).grown hgrow4 (fun e => HN.out.far e.symm)
                       have hown5 : w4.ownsRow (w.heap.size + 1) 104 5 v4 (k + 1) (secsCells (List.replicate (k + 1) Pl.Sec.empty)) := by rw [new_secs]; exact hown4
                       have HBK4 := Lib.hid hbk4
                       have HO4 := Lib.hid hown5
                       have HB4 : Hid (Below w.heap.size w w4) := (HB.out.trans (HB3.out.mono HB.out.size)).grown hgrow4 (by omega) (fun y hy => by have := (HN.out.own.lt y hy).1; omega)
                       obtain ⟨x0, _, _, _, _, y0, _, _, _, _⟩ := facts5 hbk4
                       obtain ⟨A4, cap4, rfl, _, _, _⟩ := own_src hown4
                       clear hown4 hgrow4 hat4 hbk4 hown5)
          have hfar : ∀ x, (Value.slice A4 (k + 1) cap4).ownBlock = some x → x ≠ w.heap.size := fun x hx => by have := (HO4.out.lt x hx).1; omega
          refine ⟨⟨k + 1, .slice A4 (k + 1) cap4, by omega, by go_num, ⟨fun e => hfar _ e rfl, ?_, HBK4.out.set_ 0 _⟩, HB4.out.setCell (p := ⟨w.heap.size, 0, none⟩) (Nat.le_refl _) _⟩, by simp [intOf]; omega⟩
          exact Only.own ((Only.refl (· = w.heap.size) w4).setCell (p := ⟨w.heap.size, 0, none⟩) (.inl rfl) _) HO4.out (fun y hy e => hfar y hy e)
        · obtain rfl : k = 4096 := by omega
          go_wp2_with fail
          go_ret
          refine ⟨_, rfl, ⟨?_, fun s hs => ?_, ⟨by show (-1 : Int) ≤ -1; omega, by show (-1 : Int) ≤ 9223372036854775807; omega⟩, HN.out.far, ?_, 0, 0, HN.out.blk⟩, HB.out, fun y hy => ?_⟩
          · show (List.replicate _ _).length ≤ 4096
            rw [List.length_replicate]
            exact most_le _
          · have : s = Pl.Sec.empty := List.eq_of_mem_replicate hs
            rw [this]
            exact ⟨by simp [Pl.Sec.empty, Pl.zeros], by simp [Pl.Sec.empty, Pl.zeros]⟩
          · show World.ownsRow _ 0 _ 5 _ (List.replicate _ _).length (secsCells (List.replicate _ _))
            rw [HM.out, List.length_replicate]
            exact own_low HN.out.own (Nat.zero_le _)
          · rcases hy with rfl | hy
            · exact Nat.le_refl _
            · have := (HN.out.own.lt y hy).1
              omega
    · obtain ⟨m, rfl⟩ : ∃ m : Nat, n = m := ⟨n.toNat, by omega⟩
      have HM : Hid (Pl.most (m : Int) = m) := by unfold Pl.most; rw [Hid, if_neg h1, if_neg h2]; omega
      go_enter Tryz.func17, Tryz.ntmps17
      go_wp2_with fail
      go_loopw [5] (fun i W => ∃ (k : Nat) (v : Value), k ≤ m ∧ i = .int .i64 (k : Int) ∧ Hid (NewAt W w.heap.size v k) ∧ Hid (Below w.heap.size w W)) (fun i _ => m - (intOf i).toNat)
      case atStart =>
        refine ⟨0, .slice none 0 0, Nat.zero_le _, rfl, ⟨(fun e => by cases e), World.ownsRow_nil _ _ _ _, HBK.out.below HB2.out HBK.out.lt⟩, HB1.out.trans (HB2.out.mono HB1.out.size)⟩
      case round =>
        obtain ⟨k, v, hk, rfl, HN, HB⟩ := hrel
        obtain ⟨A, cap, rfl, _, _, _⟩ := own_src HN.out.own
        obtain ⟨c0, c1, c2, c3, c4, f0, f1, f2, f3, f4⟩ := facts5 HN.out.blk
        have hgl := HN.out.blk.lt
        by_cases hkm : k < m
        · have h63 : Hid (k + 1 ≤ maxLen) := by rw [Hid]; simp only [maxLen]; omega
          have hroom := Lib.hid (sector_room (n := k) (m := 1) (by omega))
          clear c1 c2 c3 c4 f1 f2 f3 f4
          go_wp2_with (at_builtin
                       obtain ⟨w3, hw3⟩ : ∃ w3, wr.alloc (.cells #[.string Z, .string Z, .bool false, .bool false, .bool false] 104) = w3 := ⟨_, rfl⟩
                       have hb3 : Below wr.heap.size wr w3 := by rw [← hw3]; exact (Below.refl _ _).alloc (Nat.le_refl _) _
                       have HSR3 : Hid (Src w3 (some ⟨wr.heap.size, 0, none⟩) (secCells Pl.Sec.empty)) := by
                         rw [Hid, ← hw3]
                         have : secCells Pl.Sec.empty = [.string Z, .string Z, .bool false, .bool false, .bool false] := by rw [← HZ.out]; rfl
                         rw [this]
                         exact Src.of_blk (Blk.new wr 104 _)
                       have HB3 := Lib.hid hb3
                       have hs3 := hb3.size
                       rw [hw3]
                       clear hb3 hw3
                       refine wpList_append_src _ rfl (.tmp 23) (.tmp 27) 100 rfl (w.heap.size + 1) 104 i0 _ 5 40 Tryz.underlying100 HI.out.1 HI.out.2.1 HI.out.2.2.1 HI.out.2.2.2 rfl (by decide) (.slice A k cap) k (secsCells (List.replicate k Pl.Sec.empty)) rfl (own_below HN.out.own HB3.out) (some ⟨wr.heap.size, 0, none⟩) 1 1 (secCells Pl.Sec.empty) rfl rfl HSR3.out (by intro u hu; exact secsCells_one [Pl.Sec.empty] u (by simpa [secsCells] using hu)) h63.out hroom.out (by omega) ?_
                       intro v4 w4 hown4 hgrow4 hat4
                       have hbk4 := (HN.out.blk.below HB3.out HN.out.blk.lt).grown hgrow4 (fun e => HN.out.far e.symm)
                       have hown5 : w4.ownsRow (w.heap.size + 1) 104 5 v4 (k + 1) (secsCells (List.replicate (k + 1) Pl.Sec.empty)) := by rw [new_secs]; exact hown4
                       have HBK4 := Lib.hid hbk4
                       have HO4 := Lib.hid hown5
                       have HB4 : Hid (Below w.heap.size w w4) := (HB.out.trans (HB3.out.mono HB.out.size)).grown hgrow4 (by omega) (fun y hy => by have := (HN.out.own.lt y hy).1; omega)
                       obtain ⟨x0, _, _, _, _, y0, _, _, _, _⟩ := facts5 hbk4
                       obtain ⟨A4, cap4, rfl, _, _, _⟩ := own_src hown4
                       clear hown4 hgrow4 hat4 hbk4 hown5)
          have hfar : ∀ x, (Value.slice A4 (k + 1) cap4).ownBlock = some x → x ≠ w.heap.size := fun x hx => by have := (HO4.out.lt x hx).1; omega
          refine ⟨⟨k + 1, .slice A4 (k + 1) cap4, by omega, by go_num, ⟨fun e => hfar _ e rfl, ?_, HBK4.out.set_ 0 _⟩, HB4.out.setCell (p := ⟨w.heap.size, 0, none⟩) (Nat.le_refl _) _⟩, by simp [intOf]; omega⟩
          exact Only.own ((Only.refl (· = w.heap.size) w4).setCell (p := ⟨w.heap.size, 0, none⟩) (.inl rfl) _) HO4.out (fun y hy e => hfar y hy e)
        · obtain rfl : k = m := by omega
          go_wp2_with fail
          go_ret
          refine ⟨_, rfl, ⟨?_, fun s hs => ?_, ⟨by show (-1 : Int) ≤ -1; omega, by show (-1 : Int) ≤ 9223372036854775807; omega⟩, HN.out.far, ?_, 0, 0, HN.out.blk⟩, HB.out, fun y hy => ?_⟩
          · show (List.replicate _ _).length ≤ 4096
            rw [List.length_replicate]
            exact most_le _
          · have : s = Pl.Sec.empty := List.eq_of_mem_replicate hs
            rw [this]
            exact ⟨by simp [Pl.Sec.empty, Pl.zeros], by simp [Pl.Sec.empty, Pl.zeros]⟩
          · show World.ownsRow _ 0 _ 5 _ (List.replicate _ _).length (secsCells (List.replicate _ _))
            rw [HM.out, List.length_replicate]
            exact own_low HN.out.own (Nat.zero_le _)
          · rcases hy with rfl | hy
            · exact Nat.le_refl _
            · have := (HN.out.own.lt y hy).1
              omega
end Go.Proofs.YtljmklohgpaopaaGreatDoor

namespace Go.Proofs.YtljmklohgpaopaaGreatDoor
namespace Pl

end Pl
end Go.Proofs.YtljmklohgpaopaaGreatDoor

namespace Go.Proofs.YtljmklohgpaopaaGreatDoor
open Go.RowKit

end Go.Proofs.YtljmklohgpaopaaGreatDoor

namespace Go.Proofs.YtljmklohgpaopaaGreatDoor
open Go.RowKit

/-- What '[]byte(s)' lays. -/
def bytesObj (s : ByteArray) (cap : Nat) : Obj := .cells (bytesRow s cap) 5 ((bytesRow s cap).size, (bytesRow s cap).size + 1)
theorem run_tobytes (w : World) (s : ByteArray) : (convert 9 25 (.string s)).run Tryz.prog w = .ok (.slice (some ⟨w.heap.size, 0, none⟩) s.size (grownCap w s.size 0 5)) (w.drew.alloc (bytesObj s (grownCap w s.size 0 5))) :=
  run_bytes_of_string w 9 25 5 s Tryz.underlying9 Tryz.underlying25 Tryz.underlying5
theorem bytesObj_at {w : World} {g cap : Nat} {s : ByteArray} (h : w.heap[g]? = some (bytesObj s cap)) : BytesAt w (some ⟨g, 0, none⟩) s.data.toList := by
  refine .inr ⟨g, 0, rfl, fun i hi => ?_⟩
  have hi' : i < s.data.size := by simpa using hi
  rw [Nat.zero_add, cell_of_row w g i _ _ _ h, bytesRow_at s cap i hi']
  simp

end Go.Proofs.YtljmklohgpaopaaGreatDoor

namespace Go.Proofs.YtljmklohgpaopaaGreatDoor
open Go.RowKit

end Go.Proofs.YtljmklohgpaopaaGreatDoor

namespace Go.Proofs.YtljmklohgpaopaaGreatDoor
open Go.RowKit

end Go.Proofs.YtljmklohgpaopaaGreatDoor

namespace Go.Proofs.YtljmklohgpaopaaGreatDoor
open Go.RowKit

end Go.Proofs.YtljmklohgpaopaaGreatDoor

namespace Go.Proofs.YtljmklohgpaopaaGreatDoor
open Go.RowKit Go.Maps Go.WideMaps

end Go.Proofs.YtljmklohgpaopaaGreatDoor

namespace Go.Proofs.YtljmklohgpaopaaGreatDoor
open Go.RowKit Go.Maps Go.WideMaps

theorem facts2 {w : World} {g : Nat} {t : TypeId} {a0 a1 : Value} (h : Blk w g t [a0, a1]) :
    w.cell? ⟨g, 0, none⟩ = some a0 ∧ w.cell? ⟨g, 1, none⟩ = some a1 ∧ w.frozen? ⟨g, 0, none⟩ = false ∧ w.frozen? ⟨g, 1, none⟩ = false := ⟨h.cell 0, h.cell 1, h.frozen 0, h.frozen 1⟩
end Go.Proofs.YtljmklohgpaopaaGreatDoor

namespace Go.Proofs.YtljmklohgpaopaaGreatDoor
open Go.RowKit

end Go.Proofs.YtljmklohgpaopaaGreatDoor

namespace Go.Proofs.YtljmklohgpaopaaGreatDoor
open Go.RowKit

end Go.Proofs.YtljmklohgpaopaaGreatDoor

namespace Go.Proofs.YtljmklohgpaopaaGreatDoor
open Go.RowKit

end Go.Proofs.YtljmklohgpaopaaGreatDoor

namespace Go.Proofs.YtljmklohgpaopaaGreatDoor
open Go

section
variable {P : Program} {ops : Array Oper} {Q : Exit → Act → World → Prop} {md : Region.Mode} {S : Array Bool → World → Prop} {C D : World → Prop} {m : Nat}

/-- As wpAnyH, but what holds of the world may hang on what has come up. -/
def wpL (P : Program) (md : Region.Mode) (ops : Array Oper) (Q : Exit → Act → World → Prop) (S : Array Bool → World → Prop) : Nat → Array Bool → Act → World → Prop
  | 0, L, a, w => Region.ready md ops L = [] ∧ Q .normal a w
  | f + 1, L, a, w =>
    (Region.ready md ops L = [] → Q .normal a w) ∧
    ∀ i ∈ Region.ready md ops L, wpOp P ops Q i (fun a' w' => S (L.setIfInBounds i true) w' ∧ wpL P md ops Q S f (L.setIfInBounds i true) a' w') a w
theorem wpAny_of_L : ∀ (f : Nat) (L : Array Bool) (a : Act) (w : World), wpL P md ops Q S f L a w → wpAny P md ops Q f L a w
  | 0, _, _, _, h => h
  | f + 1, _, _, _, h => ⟨h.1, fun i hi => wpOp_mono (fun a' w' h' => wpAny_of_L f _ a' w' h'.2) (h.2 i hi)⟩

theorem wpL_first {i : Nat} {oi : Oper} {v : Value} (hi : ops[i]? = some oi) (hsel : ∀ (j : Nat) (o : Oper) cs b, ops[j]? = some o → o.op ≠ .select cs b)
    (hQ : ∀ c a w, Q (.panic c) (a.put oi.dst v) w → Q (.panic c) a w) (I : Array Bool → Prop) (hI : ∀ L j, I L → i ∈ Region.ready md ops L → j ∈ Region.ready md ops L → j ≠ i → I (L.setIfInBounds j true))
    (hm : ∀ L w, S (L.setIfInBounds i true) w ↔ S L w) (T : World → Prop) (hT : ∀ L w, I L → S L w → T w) :
    ∀ (fuel : Nat) (listed : Array Bool) (a : Act) (w : World), I listed →
      (∀ j oj, ops[j]? = some oj → j ≠ i → listed.getD j true = false → (∀ e ∈ oj.after, Region.binds md e = true → e.on ≠ i) → oi.apart ops oj = true) →
      i ∈ Region.ready md ops listed → YieldsIf P ops T oi v a → S listed w →
      wpL P md ops Q S fuel (listed.setIfInBounds i true) (a.put oi.dst v) w → wpL P md ops Q S (fuel + 1) listed a w := by
  intro fuel
  induction fuel with
  | zero =>
    intro L a w hIL _ hr hy hS H
    refine ⟨fun h => (by rw [h] at hr; cases hr), fun j hj => ?_⟩
    by_cases hji : j = i
    · subst hji
      exact hy.wpOp hi (hT _ _ hIL hS) ⟨(hm L w).2 hS, H⟩
    · have := ready_mono hj hji
      rw [H.1] at this
      cases this
  | succ fuel ih =>
    intro L a w hIL hfree hr hy hS H
    refine ⟨fun h => (by rw [h] at hr; cases hr), fun j hj => ?_⟩
    by_cases hji : j = i
    · subst hji
      exact hy.wpOp hi (hT _ _ hIL hS) ⟨(hm L w).2 hS, H⟩
    · have h1 := H.2 j (ready_mono hj hji)
      obtain ⟨hjun, oj, hoj, hall⟩ := mem_ready.1 hj
      have hnot : ∀ e ∈ oj.after, Region.binds md e = true → e.on ≠ i := fun e he hb heq => by
        have h1 := hall e he hb
        have h0 := (mem_ready.1 hr).1
        rw [heq] at h1
        rcases Nat.lt_or_ge i L.size with h' | h'
        · simp [h'] at h0 h1; rw [h0] at h1; cases h1
        · simp [Array.getElem?_eq_none h'] at h1
      have h2 := wpOp_putIf hoj (hfree j oj hoj hji hjun hnot) (fun cs b => hsel i oi cs b hi) (fun cs b => hsel j oj cs b hoj) hQ hy h1
      have hfree' : ∀ k ok, ops[k]? = some ok → k ≠ i → (L.setIfInBounds j true).getD k true = false →
          (∀ e ∈ ok.after, Region.binds md e = true → e.on ≠ i) → oi.apart ops ok = true := fun k ok hk hki hun hno => by
        refine hfree k ok hk hki ?_ hno
        by_cases hjk : j = k
        · subst hjk; exact hjun
        · rw [getD_set_ne true hjk] at hun; exact hun
      refine wpOp_mono (fun a' w' h3 => ?_) h2
      have hs : S (L.setIfInBounds j true) w' := by
        have := h3.2.1
        rw [Array.setIfInBounds_comm _ _ (Ne.symm hji)] at this
        exact (hm _ _).1 this
      refine ⟨hs, ih (L.setIfInBounds j true) a' w' (hI L j hIL hr hj hji) hfree' (ready_mono hr (Ne.symm hji)) h3.1 hs ?_⟩
      rw [Array.setIfInBounds_comm _ _ hji]
      exact h3.2.2

/-- Does operation m wait for operation i? -/
def waits (md : Region.Mode) (ops : Array Oper) (m i : Nat) : Bool := match ops[m]? with
  | some o => o.after.any fun e => Region.binds md e && e.on == i
  | none => false
/-- What holds till operation m has come up, and what holds all along. -/
def Till (m : Nat) (C D : World → Prop) (L : Array Bool) (w : World) : Prop := (L.getD m true = false → C w) ∧ D w
theorem wpL_take {i : Nat} {oi : Oper} {v : Value} {fuel : Nat} {listed : Array Bool} {a : Act} {w : World} (hi : ops[i]? = some oi)
    (hs : Region.noSelect ops = true) (hf : Region.free md ops listed i = true) (hr : (Region.ready md ops listed).contains i = true)
    (hw : (waits md ops m i && !(m == i) && !(listed.getD m true)) = true)
    (hQ : ∀ c a w, Q (.panic c) (a.put oi.dst v) w → Q (.panic c) a w) (hy : YieldsIf P ops (fun w => C w ∧ D w) oi v a) (hS : Till m C D listed w)
    (h : wpL P md ops Q (Till m C D) fuel (listed.setIfInBounds i true) (a.put oi.dst v) w) : wpL P md ops Q (Till m C D) (fuel + 1) listed a w := by
  simp only [Bool.and_eq_true, Bool.not_eq_true', beq_eq_false_iff_ne, ne_eq] at hw
  obtain ⟨⟨hw, hmi⟩, hun⟩ := hw
  refine wpL_first hi (Region.noSelect_spec hs) hQ (fun L => L.getD m true = false) ?_ (fun L w => ?_) _ (fun L w hL hs => ⟨hs.1 hL, hs.2⟩) fuel listed a w hun (Region.free_spec hi hf) (by simpa using hr) hy hS h
  · intro L j hL hiL hj hji
    by_cases hjm : j = m
    · subst hjm
      obtain ⟨_, oj, hoj, hall⟩ := mem_ready.1 hj
      unfold waits at hw
      rw [hoj] at hw
      obtain ⟨e, he, hb⟩ := Array.any_eq_true'.1 hw
      simp only [Bool.and_eq_true, beq_iff_eq] at hb
      have h1 := hall e he hb.1
      have h0 := (mem_ready.1 hiL).1
      rw [hb.2] at h1
      rcases Nat.lt_or_ge i L.size with h' | h'
      · simp [h'] at h0 h1; rw [h0] at h1; cases h1
      · simp [Array.getElem?_eq_none h'] at h1
    · rw [getD_set_ne true hjm]; exact hL
  · unfold Till
    rw [getD_set_ne true (fun e => hmi e.symm)]
theorem wpL_take' {i : Nat} {oi : Oper} {v : Value} {fuel : Nat} {listed : Array Bool} {a : Act} {w : World} (hi : ops[i]? = some oi)
    (hs : Region.noSelect ops = true) (hf : Region.free md ops listed i = true) (hr : (Region.ready md ops listed).contains i = true) (hmi : (!(m == i)) = true)
    (hQ : ∀ c a w, Q (.panic c) (a.put oi.dst v) w → Q (.panic c) a w) (hy : YieldsIf P ops D oi v a) (hS : Till m C D listed w)
    (h : wpL P md ops Q (Till m C D) fuel (listed.setIfInBounds i true) (a.put oi.dst v) w) : wpL P md ops Q (Till m C D) (fuel + 1) listed a w := by
  simp only [Bool.not_eq_true', beq_eq_false_iff_ne, ne_eq] at hmi
  refine wpL_first hi (Region.noSelect_spec hs) hQ (fun _ => True) (fun _ _ _ _ _ _ => trivial) (fun L w => ?_) D (fun L w _ hs => hs.2) fuel listed a w trivial (Region.free_spec hi hf) (by simpa using hr) hy hS h
  unfold Till
  rw [getD_set_ne true (fun e => hmi e.symm)]

def AllL (P : Program) (md : Region.Mode) (ops : Array Oper) (Q : Exit → Act → World → Prop) (S : Array Bool → World → Prop) (fuel : Nat) (listed : Array Bool) (a : Act) (w : World) (rs : List Nat) : Prop :=
  ∀ i ∈ rs, wpOp P ops Q i (fun a' w' => S (listed.setIfInBounds i true) w' ∧ wpL P md ops Q S fuel (listed.setIfInBounds i true) a' w') a w
theorem AllL.nil {fuel : Nat} {listed : Array Bool} {a : Act} {w : World} : AllL P md ops Q S fuel listed a w [] := fun _ h => by cases h
theorem AllL.cons {fuel : Nat} {listed : Array Bool} {a : Act} {w : World} {i : Nat} {o : Oper} {rs : List Nat} (ho : ops[i]? = some o)
    (h : ∀ K' : Act → World → Prop, Shut (∀ a w, Till m C D (listed.setIfInBounds i true) w → (Till m C D (listed.setIfInBounds i true) w → wpL P md ops Q (Till m C D) fuel (listed.setIfInBounds i true) a w) → K' a w) → if Region.wanted o (yielded ops a.tmps) = true then Oper.wp P o a w K' Q else K' (a.put o.dst undef) w)
    (hs : AllL P md ops Q (Till m C D) fuel listed a w rs) : AllL P md ops Q (Till m C D) fuel listed a w (i :: rs) := fun j hj => by
  rcases List.mem_cons.1 hj with rfl | hj
  · exact wpOp_step ho (fun K' hK => h K' (fun a w hS hW => hK a w ⟨hS, hW hS⟩))
  · exact hs j hj
theorem wpL_ready {rs : List Nat} {fuel : Nat} {listed : Array Bool} {a : Act} {w : World} (hr : Region.ready md ops listed = rs) (hne : rs ≠ [])
    (h : AllL P md ops Q S fuel listed a w rs) : wpL P md ops Q S (fuel + 1) listed a w := ⟨fun h0 => absurd (hr ▸ h0) hne, hr ▸ h⟩
theorem wpL_done {listed : Array Bool} {a : Act} {w : World} (hr : Region.ready md ops listed = []) (h : Q .normal a w) : ∀ fuel, wpL P md ops Q S fuel listed a w
  | 0 => ⟨hr, h⟩
  | _ + 1 => ⟨fun _ => h, by rw [hr]; simp⟩
/-- The beginning. -/
theorem wp_region_L (m : Nat) (C D : World → Prop) {id : Nat} {a : Act} {w : World} (hm : P.follows .mixedOrders = true) (hC : C w.drew) (hD : D w.drew)
    (h : Till m C D (Array.replicate ops.size false) w.drew → wpL P .any ops Q (Till m C D) ops.size (Array.replicate ops.size false) a w.drew) : (Code.region id ops true).wp P Q a w :=
  wp_region_any hm (wpAny_of_L _ _ _ _ (h ⟨fun _ => hC, hD⟩))
end
end Go.Proofs.YtljmklohgpaopaaGreatDoor

namespace Go.Proofs.YtljmklohgpaopaaGreatDoor
open Go.RowKit

/-- Groups of cells, each as its element says. -/
def RowsR {α : Type} (s : Nat) (R : List Value → α → Prop) (cs : List Value) (xs : List α) : Prop := cs.length = s * xs.length ∧ ∀ k x, xs[k]? = some x → R ((cs.drop (s * k)).take s) x
theorem RowsR.nil {α : Type} (s : Nat) (R : List Value → α → Prop) : RowsR s R [] [] := ⟨rfl, fun k x h => by cases h⟩
theorem RowsR.snoc {α : Type} {s : Nat} {R : List Value → α → Prop} {cs c : List Value} {xs : List α} {x : α} (h : RowsR s R cs xs) (hc : c.length = s) (hx : R c x) : RowsR s R (cs ++ c) (xs ++ [x]) := by
  refine ⟨by rw [List.length_append, List.length_append, h.1, hc, List.length_singleton, Nat.mul_add, Nat.mul_one], fun k y hk => ?_⟩
  have hl := h.1
  by_cases hk2 : k < xs.length
  · rw [List.getElem?_append_left hk2] at hk
    have hb : s * k + s ≤ cs.length := by rw [hl, ← Nat.mul_succ]; exact Nat.mul_le_mul_left s hk2
    rw [List.drop_append_of_le_length (by omega), List.take_append_of_le_length (by rw [List.length_drop]; omega)]
    exact h.2 k y hk
  · rw [List.getElem?_append_right (by omega)] at hk
    obtain hkk : k - xs.length = 0 := by
      by_cases e : k - xs.length = 0
      · exact e
      · rw [List.getElem?_eq_none (by simp; omega)] at hk; cases hk
    rw [hkk] at hk
    obtain rfl : x = y := by simpa using hk
    obtain rfl : k = xs.length := by omega
    rw [← hl, List.drop_left, ← hc, List.take_length]
    exact hx
theorem RowsR.mono {α : Type} {s : Nat} {R R' : List Value → α → Prop} {cs : List Value} {xs : List α} (h : RowsR s R cs xs) (hR : ∀ c x, x ∈ xs → R c x → R' c x) : RowsR s R' cs xs :=
  ⟨h.1, fun k x hk => hR _ _ (List.mem_of_getElem? hk) (h.2 k x hk)⟩
/-- The cells of one element. -/
theorem RowsR.at_ {α : Type} {s : Nat} {R : List Value → α → Prop} {cs : List Value} {xs : List α} {k : Nat} {x : α} (h : RowsR s R cs xs) (hk : xs[k]? = some x) :
    ∃ c, R c x ∧ c.length = s ∧ ∀ j, j < s → cs[k * s + j]? = c[j]? := by
  refine ⟨_, h.2 k x hk, ?_, fun j hj => ?_⟩
  · obtain ⟨hlt, _⟩ := List.getElem?_eq_some_iff.1 hk
    have hb : s * k + s ≤ cs.length := by rw [h.1, ← Nat.mul_succ]; exact Nat.mul_le_mul_left s hlt
    rw [List.length_take, List.length_drop]
    omega
  · rw [List.getElem?_take_of_lt hj, List.getElem?_drop, Nat.mul_comm]

end Go.Proofs.YtljmklohgpaopaaGreatDoor

namespace Go.Proofs.YtljmklohgpaopaaGreatDoor
open Go.RowKit

end Go.Proofs.YtljmklohgpaopaaGreatDoor
