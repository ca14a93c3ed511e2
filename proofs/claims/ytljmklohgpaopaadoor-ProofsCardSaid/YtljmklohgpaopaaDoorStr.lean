/- The walks of the harness's lent and stays, of plain's text and Sum, of the reference's Sum and Bytes. -/
import Derived.Test.YtljmklohgpaopaaDoorSum
import Derived.Test.YtljmklohgpaopaaDoorHeap
namespace Go.Proofs.YtljmklohgpaopaaDoor
open Go.RowKit

theorem Tryd.infoByte : (Tryd.prog.info? 5).map (fun i => (i.zero, i.size, i.bytes)) = some (some (.int .u8 0), 1, 1) := by kernel_rfl
theorem Tryd.sizeByte : (Tryd.prog.info? 5).map (·.size) = some 1 := by kernel_rfl

def zrow (n : Nat) : List Value := List.replicate n (.int .u8 0)
theorem madeCells_one (v : Value) (n : Nat) : madeCells #[v] n = (List.replicate n v).toArray := by
  apply Array.ext
  · simp [madeCells]
  · intro i h1 h2
    simp [madeCells, Nat.mod_one]
theorem make_bytes (x : Int) (n : Nat) (hx : x = n) (hn : n ≤ 281474976710656) (w : World) :
    (Instr.makeSlice 23 (.int .i64 x) (.int .i64 x)).run Tryd.prog w = .ok (.slice (some ⟨w.heap.size, 0, none⟩) n n) (w.alloc (.cells (zrow n).toArray 5)) := by
  subst hx
  obtain ⟨i, hi, hz0, hz1, hz2⟩ := info_parts Tryd.infoByte
  have h := run_make (P := Tryd.prog) w 23 5 i (.int .u8 0) Tryd.underlying23 hi hz0 .i64 .i64 n n (by omega) (Int.le_refl _) (by rw [hz2]; omega) (by omega)
  rw [h]
  simp [hz1, Value.cells, madeCells_one, zrow]

def lrow (s : ByteArray) : List Value := bv s.data.toList ++ [.int .u8 0, .int .u8 0]
def lentRow (l : List UInt8) : List Value := bv (l ++ [77, 78])

set_option maxHeartbeats 400000 in
theorem lent_any (s : ByteArray) (w : World) (hm : s.size ≤ 140737488351232) :
    Calls Tryd.prog 7 #[.string s] w fun e w' => e = .returned (.slice (some ⟨w.heap.size, 0, none⟩) s.size (s.size + 2)) ∧ w' = w.alloc (.cells (lentRow s.data.toList).toArray 5) := by
  have hmk := make_bytes ((s.size : Int) + 2) (s.size + 2) (by omega) (by omega)
  have hs : s.data.toList.length = s.size := rfl
  have hcp := run_copy_str (P := Tryd.prog) (w.alloc (.cells (zrow (s.size + 2)).toArray 5)) 23 9 3 5 w.heap.size 0 (s.size + 2) (s.size + 2) s (zrow (s.size + 2)) 5 Tryd.underlying23 Tryd.sizeByte (Blk.new _ _ _) (by omega) (by simp [zrow])
  have he : (List.take 0 (zrow (s.size + 2)) ++ bv s.data.toList ++ List.drop (0 + s.size) (zrow (s.size + 2))) = lrow s := by
    simp only [zrow, lrow, List.drop_replicate, List.take_zero, List.nil_append]
    rw [show s.size + 2 - (0 + s.size) = 2 by omega]
    rfl
  rw [he, setRow_alloc] at hcp
  have e1 : lrow s = bv s.data.toList ++ [.int .u8 0, .int .u8 0] := rfl
  have e2 : (bv s.data.toList).length = s.size := by simp
  have e3 : lentRow s.data.toList = bv s.data.toList ++ [.int .u8 77, .int .u8 78] := by simp [lentRow, bv]
  have hfin : ((lrow s).set s.size (.int .u8 77)).set (s.size + 1) (.int .u8 78) = lentRow s.data.toList := by
    rw [e1, e3]
    generalize bv s.data.toList = L at e2
    simp [← e2, List.set_append_right]
  have hc0 : (lrow s)[s.size]? = some (.int .u8 0) := by rw [e1, List.getElem?_append_right (by omega), e2]; simp
  have hc1 : (lrow s)[s.size + 1]? = some (.int .u8 0) := by rw [e1, List.getElem?_append_right (by omega), e2]; simp
  have HF := Lib.hid hfin
  clear he hs hfin e1 e2 e3
  go_enter Tryd.func7, Tryd.ntmps7
  go_wp2
  go_ret
  exact ⟨rfl, by rw [HF.out]⟩

def str (l : List UInt8) : Value := .string ⟨l.toArray⟩

theorem u8_ofNat (x : Nat) (n : Nat) (h : (x : Int) % 256 = n % 256) : ((UInt8.ofNat x).toNat : Int) = (n : Int) % 256 := by
  rw [← h]; simp

set_option maxHeartbeats 400000 in
theorem refBytes_any (v n : Nat) (w : World) (hv : v < 18446744073709551616) (hn : n ≤ 8) :
    Calls Tryd.prog 28 #[.int .u64 v, .int .i64 n] w fun e w' => e = .returned (.string ⟨(Pl.be n v).toArray⟩) ∧ Below w.heap.size w w' := by
  have hmx : Hid (v < 18446744073709551616) := hv
  clear hv
  go_enter Tryd.func28, Tryd.ntmps28
  go_wp2
  go_loopw [0, 5, 6] (fun x s i wr => ∃ k y : Nat, k ≤ n ∧ i = .int .i64 k ∧ Hid (v / 256 ^ k = y) ∧ x = .int .u64 (y : Int) ∧ s = .string ⟨(Pl.be k v).toArray⟩ ∧ Below w.heap.size w wr) (fun _ _ i _ => n - (intOf i).toNat)
  case atStart => exact ⟨0, v, by omega, rfl, by simp [Hid], rfl, rfl, Below.refl _ _⟩
  case round =>
    obtain ⟨k, y, hk, rfl, HY, rfl, rfl, hbel⟩ := hrel
    by_cases hkn : k < n
    · have hcv := run_string_one (P := Tryd.prog) wr 23 9 5 5 y Tryd.underlying23 Tryd.underlying5 Tryd.underlying9
      have hlen : (Pl.be k v).length ≤ 8 := by rw [Pl.be_length]; omega
      have hyv : y ≤ v := by rw [← HY.out]; exact Nat.div_le_self _ _
      have hwr : Hid (IntKind.u64.wrap ((y : Int) / 256) = ((y / 256 : Nat) : Int)) := by
        have := hmx.out
        exact IntWalk.u64_in _ (by omega)
      go_wp2
      exact ⟨⟨k + 1, y / 256, by omega, by go_num, by rw [Hid, Nat.pow_succ, ← Nat.div_div_eq_div_mul, HY.out], by rw [hwr.out], by rw [Pl.be, HY.out]; rfl, hbel.alloc hbel.size _⟩, by simp [intOf]; omega⟩
    · obtain rfl : k = n := by omega
      go_wp2
      go_ret
      exact ⟨rfl, hbel⟩

set_option maxHeartbeats 400000 in
theorem refSum_any (s : ByteArray) (w : World) (hm : s.size ≤ 9223372036854775807) :
    Calls Tryd.prog 29 #[.string s] w fun e w' => e = .returned (.string ⟨(Pl.hashText (Pl.sumN s.data.toList)).toArray⟩) ∧ Below w.heap.size w w' := by
  go_enter Tryd.func29, Tryd.ntmps29
  go_wp2
  go_loop [3, 4] (fun h i => ∃ k : Nat, k ≤ s.size ∧ i = .int .i64 k ∧ h = .int .u64 (Pl.sumN (s.data.toList.take k))) (fun _ i => s.size - (intOf i).toNat)
  case atStart => exact ⟨0, Nat.zero_le _, rfl, rfl⟩
  case round =>
    obtain ⟨k, hk, rfl, rfl⟩ := hrel
    have hlt := Pl.sumN_lt (s.data.toList.take k)
    by_cases hkl : k < s.size
    · obtain ⟨c, hc⟩ : ∃ c, s[k] = c := ⟨_, rfl⟩
      have HC : Hid (s.data.toList[k]'hkl = c) := hc
      have hcl : (c.toNat : Int) < 256 := by have := c.toNat_lt; omega
      go_wp2
      go_round
      case rel =>
        refine ⟨k + 1, by omega, by go_num, ?_⟩
        rw [take_snoc _ k hkl, Pl.sumN_snoc, HC.out]
        simp [Pl.sumStep]
        omega
      case measure => simp [intOf]; omega
    · have hkk : k = s.data.toList.length := by show k = s.size; omega
      rw [show s.data.toList.take k = s.data.toList by rw [hkk, List.take_length]] at hlt ⊢
      clear hkk
      go_wp2_with fail
      refine (refBytes_any _ 4 _ (by omega) (by omega)).mono ?_
      rintro e w1 ⟨rfl, hb1⟩
      go_wp2
      go_ret
      exact ⟨rfl, hb1⟩

theorem getb (l : List UInt8) (i : Nat) (h : i < l.length) : (bv l)[i]? = some (.int .u8 (l[i].toNat : Int)) := bv_get? l i h

set_option maxHeartbeats 400000 in
set_option maxRecDepth 100000 in
/-- A slice that 'lent' made: block g holds the text and the two bytes behind it. -/
theorem stays_any (g : Nat) (s : ByteArray) (w : World) (hm : s.size ≤ 140737488351232) (hb : Blk w g 5 (lentRow s.data.toList)) :
    Calls Tryd.prog 10 #[.slice (some ⟨g, 0, none⟩) s.size (s.size + 2), .string s] w fun e w' => e = .returned (.bool true) ∧ w.grownBy w' (some g) ∧ ∃ cs, cs.length = s.size + 2 ∧ Blk w' g 5 cs := by
  have hlen : (lentRow s.data.toList).length = s.size + 2 := by simp [lentRow]
  have hget : ∀ i, (h : i < s.data.toList.length) → w.cell? ⟨g, i, none⟩ = some (.int .u8 (s.data.toList[i].toNat : Int)) := by
    intro i h
    rw [hb.cell, lentRow, bv_append, List.getElem?_append_left (by simpa using h), getb _ i h]
  have hcv := run_convert_bytes_back (P := Tryd.prog) w 23 9 5 ⟨g, 0, none⟩ (s.size + 2) s.data.toList Tryd.underlying23 Tryd.underlying5 Tryd.underlying9
    (fun j hj => by rw [addr_add, Nat.zero_add]; exact hget j hj)
  have hs1 : s.data.toList.length = s.size := rfl
  have hs2 : (⟨s.data.toList.toArray⟩ : ByteArray) = s := rfl
  rw [hs1, hs2] at hcv
  have h77 : w.cell? ⟨g, s.size, none⟩ = some (.int .u8 77) := by
    rw [hb.cell, lentRow, bv_append, List.getElem?_append_right (by simp)]; simp [bv]
  have h78 : w.cell? ⟨g, s.size + 1, none⟩ = some (.int .u8 78) := by
    rw [hb.cell, lentRow, bv_append, List.getElem?_append_right (by simp)]; simp [bv]
  clear hs1 hs2 hget
  have HB := Lib.hid hb
  clear hb
  have HL := Lib.hid hlen
  clear hlen
  go_enter Tryd.func10, Tryd.ntmps10
  go_wp2
  go_loopw [7] (fun i wr => ∃ k cs, k ≤ s.size + 2 ∧ i = .int .i64 (k : Nat) ∧ Hid (cs.length = s.size + 2) ∧ Hid (Blk wr g 5 cs) ∧ w.grownBy wr (some g)) (fun i _ => s.size + 2 - (intOf i).toNat)
  case atStart => exact ⟨0, _, by omega, rfl, HL.out, HB.out, World.grownBy.refl w _⟩
  case round =>
    obtain ⟨k, cs, hk, rfl, HC, HB1, hon⟩ := hrel
    by_cases hkn : k < s.size + 2
    · have hc : wr.cell? ⟨g, k, none⟩ = some (cs[k]'(by rw [HC.out]; exact hkn)) := by rw [HB1.out.cell, List.getElem?_eq_getElem]
      have hf := HB1.out.frozen k
      go_wp2
      exact ⟨⟨k + 1, _, by omega, by go_num, by rw [Hid, List.length_set]; exact HC.out, HB1.out.set_ k _, only_setCell hon (.inl rfl) _⟩, by simp [intOf]; omega⟩
    · go_wp2
      go_ret
      exact ⟨rfl, hon, cs, HC.out, HB1.out⟩
end Go.Proofs.YtljmklohgpaopaaDoor
