/- The walks of bytes.Equal, chain.Hash, the harness's four, the reference's Extends. -/
import Derived.Test.YtljmklohgpaopaaDoorChainA
import Derived.Test.YtljmklohgpaopaaDoorTreeK
import Derived.Deep.Cut
namespace Go.Proofs.YtljmklohgpaopaaDoor
open Go.RowKit

theorem run_tostr (w : World) (A : Option Addr) (l : List UInt8) (cap : Nat) (h : BytesAt w A l) :
    (convert 23 9 (.slice A l.length cap)).run Tryd.prog w = .ok (.string (tstr l)) w := by
  cases A with
  | none =>
    have : l = [] := by
      rcases h with h | ⟨_, _, e, _⟩
      · exact h
      · cases e
    subst this
    exact run_convert_bytes_nil w 23 5 Tryd.underlying23 Tryd.underlying5 0 cap 9 Tryd.underlying9
  | some a =>
    refine run_convert_bytes_back (P := Tryd.prog) w 23 9 5 a cap l Tryd.underlying23 Tryd.underlying5 Tryd.underlying9 (fun j hj => ?_)
    obtain ⟨b, off, e, hc⟩ := h.at_ j hj
    cases e
    rw [addr_add]
    exact hc

theorem tstr_beq (a b : List UInt8) : ((tstr a).toList == (tstr b).toList) = (a == b) := by
  rw [ByteArray.toList_eq, ByteArray.toList_eq, tstr_list, tstr_list]

theorem bytesEqual_any (A B : Option Addr) (l m : List UInt8) (c d : Nat) (w : World) (ha : BytesAt w A l) (hb : BytesAt w B m) :
    Calls Tryd.prog 78 #[.slice A l.length c, .slice B m.length d] w fun e w' => e = .returned (.bool (l == m)) ∧ w = w' := by
  have h1 := run_tostr w A l c ha
  have h2 := run_tostr w B m d hb
  have h3 := tstr_beq l m
  go_enter Tryd.func78, Tryd.ntmps78
  go_wp2_with fail
  go_ret
  exact ⟨rfl, rfl⟩

theorem chainHash_any (A : Option Addr) (cap : Nat) (l : List UInt8) (w : World) (hb : BytesAt w A l) (hm : l.length ≤ 9223372036854775807) :
    Calls Tryd.prog 80 #[.slice A l.length cap] w fun e w' => e = .returned (hashVal (Pl.sumN l)) ∧ Below w.heap.size w w' := by
  have hb1 := hb.keep (w' := w.alloc (.cells #[.int .u8 0, .int .u8 0, .int .u8 0, .int .u8 0] 73)) ((Below.refl _ _).alloc (Nat.le_refl _) _)
  obtain ⟨x, hx⟩ : ∃ x, Pl.sumN l = x := ⟨_, rfl⟩
  have hS := sum_any A cap l _ hb1 hm
  rw [hx] at hS ⊢
  have HS := Lib.hid hS
  clear hS hx hb hb1
  go_enter Tryd.func80, Tryd.ntmps80
  go_wp2_with fail
  refine HS.out.mono ?_
  rintro e w1 ⟨rfl, hb1⟩
  unfold hashVal
  have hB := (Blk.hash0 w).below hb1 (by simp)
  obtain ⟨c0, c1, c2, c3, f0, f1, f2, f3⟩ := facts4 hB
  have hB' := Lib.hid hB
  have H' := Lib.hid (((Below.refl w.heap.size w).alloc (Nat.le_refl _) _).trans (hb1.mono (by simp)))
  clear hB hb1
  go_wp2_with fail
  refine bodyPost_ret (v := hashVal x) (results_hash rfl rfl (hB'.out.set4 _ _ _ _)) rfl ⟨rfl, ?_⟩
  exact below_set4 H'.out (Nat.le_refl _) _ _ _ _

theorem four_any (s : ByteArray) (w : World) (hs : s.size ≤ 140737488351232) :
    Calls Tryd.prog 6 #[.string s] w fun e w' => e = .returned (.string (tstr ((s.data.toList ++ [0, 0, 0, 0]).take 4))) ∧ w = w' := by
  have hl : s.data.toList.length = s.size := rfl
  obtain ⟨z, hz⟩ : ∃ z, tstr (s.data.toList ++ [0, 0, 0, 0]) = z := ⟨_, rfl⟩
  have hcat : ∀ w, (Op.stringOp .add s ⟨#[0, 0, 0, 0]⟩).run Tryd.prog w = .ok (.string z) w := by
    intro w
    have := run_cat w s.data.toList [0, 0, 0, 0] (by simp; omega)
    rw [show tstr s.data.toList = s by cases s; simp [tstr]] at this
    rw [← hz]
    exact this
  have hsl : ∀ w, (Instr.slice 9 (.string z) none (some (.int .i64 4)) none).run Tryd.prog w = .ok (.string (tstr ((s.data.toList ++ [0, 0, 0, 0]).take 4))) w := by
    intro w
    rw [← hz]
    exact run_str_take w _ 4 4 rfl (by simp)
  clear hz hl
  go_enter Tryd.func6, Tryd.ntmps6
  go_wp2_with fail
  go_ret
  exact ⟨rfl, rfl⟩

theorem eqIn_hash (d : Nat) (x0 x1 x2 x3 y0 y1 y2 y3 : Int) (w : World) (h : ∀ a b w, (Op.equalIn d 5 (.int .u8 a) (.int .u8 b)).run Tryd.prog w = .ok (a == b) w) : (Op.equalIn (d + 1) 73 (.agg #[.int .u8 x0, .int .u8 x1, .int .u8 x2, .int .u8 x3]) (.agg #[.int .u8 y0, .int .u8 y1, .int .u8 y2, .int .u8 y3])).run Tryd.prog w = .ok (x0 == y0 && (x1 == y1 && (x2 == y2 && x3 == y3))) w := by
  obtain ⟨i0, hi, hz0, hz1, hz2⟩ := info_parts Tryd.infoByte
  have hs : ∀ w, (sizeOf 5).run Tryd.prog w = .ok 1 w := fun w => by simp [sizeOf, typeInfo, hi, hz1]
  have hp : ∀ (w : World) (i : Nat) (z : Array Value) (v : Value), z[i]? = some v → (part 5 z i).run Tryd.prog w = .ok v w := by
    intro w i z v hz
    have ha : ∀ w, (isAgg 5).run Tryd.prog w = .ok false w := fun w => by simp [isAgg, run_underlying Tryd.underlying5]
    simp [part, ha, hz]
  simp only [Op.equalIn, Sem.run_bind, run_underlying Tryd.underlying73, Result.andThen_ok]
  simp only [hs, Result.andThen_ok, Std.Legacy.Range.forIn_eq_forIn_range']
  simp only [show List.range' ([0:4] : Std.Legacy.Range).start ([0:4] : Std.Legacy.Range).size ([0:4] : Std.Legacy.Range).step = [0, 1, 2, 3] from rfl]
  simp only [List.forIn_cons, List.forIn_nil, Sem.run_bind]
  have p0 := fun (a b c d : Value) (w : World) => hp w (0 * 1) #[a, b, c, d] a rfl
  have p1 := fun (a b c d : Value) (w : World) => hp w (1 * 1) #[a, b, c, d] b rfl
  have p2 := fun (a b c d : Value) (w : World) => hp w (2 * 1) #[a, b, c, d] c rfl
  have p3 := fun (a b c d : Value) (w : World) => hp w (3 * 1) #[a, b, c, d] d rfl
  simp only [p0, Result.andThen_ok, h]
  cases h0 : x0 == y0 <;> cases h1 : x1 == y1 <;> cases h2 : x2 == y2 <;> cases h3 : x3 == y3 <;> simp [h1, h2, h3, p1, p2, p3, h]
theorem hash_bytes_eq (a b : Nat) (ha : a < 4294967296) (hb : b < 4294967296) : (((a : Int) / 16777216 == (b : Int) / 16777216) && (((a : Int) / 65536 % 256 == (b : Int) / 65536 % 256) && (((a : Int) / 256 % 256 == (b : Int) / 256 % 256) && ((a : Int) % 256 == (b : Int) % 256)))) = decide (a = b) := by
  rw [Bool.eq_iff_iff]
  simp only [Bool.and_eq_true, beq_iff_eq, decide_eq_true_eq]
  omega
theorem run_eql_hash (a b : Nat) (ha : a < 4294967296) (hb : b < 4294967296) (w : World) : (binOp .eql 73 (hashVal a) (hashVal b)).run Tryd.prog w = .ok (.bool (decide (a = b))) w := by
  unfold hashVal
  rw [run_eql_struct, eqIn_hash 9999 _ _ _ _ _ _ _ _ w (fun a b w => run_equalIn_int w 9998 5 .u8 .u8 a b Tryd.underlying5), hash_bytes_eq a b ha hb]
  rfl
theorem run_neq_hash (a b : Nat) (ha : a < 4294967296) (hb : b < 4294967296) (w : World) : (binOp .neq 73 (hashVal a) (hashVal b)).run Tryd.prog w = .ok (.bool (!decide (a = b))) w := by
  unfold hashVal
  rw [run_neq_struct, eqIn_hash 9999 _ _ _ _ _ _ _ _ w (fun a b w => run_equalIn_int w 9998 5 .u8 .u8 a b Tryd.underlying5), hash_bytes_eq a b ha hb]
  rfl
end Go.Proofs.YtljmklohgpaopaaDoor
