/- The law Proofs walked: it returns true. -/
import Derived.Test.YtljmklohgpaopaaDoorChainH
namespace Go.Proofs.YtljmklohgpaopaaDoor
open Go.RowKit

theorem lentRow_bytes' {w : World} {g : Nat} {l : List UInt8} (h : Blk w g 5 (lentRow l)) : BytesAt w (some ⟨g, 0, none⟩) l := by
  refine .inr ⟨g, 0, rfl, fun i hi => ?_⟩
  rw [Nat.zero_add, h.cell, lentRow, bv_append, List.getElem?_append_left (by simpa using hi), getb _ i hi]
theorem hashOf_hstr (n : Nat) (h : n < 4294967296) : Pl.hashOf (hstr n).data.toList = n := by
  rw [show (hstr n).data.toList = Pl.be 4 n from rfl, Pl.hashOf_four _ (Pl.be_length _ _), Pl.num_be 4 n (by simpa using h)]

set_option maxHeartbeats 4000000 in
set_option maxRecDepth 100000 in
theorem proofs_law (blocks more : Int) (hash end_ proof : ByteArray) (w : World) (hG : GE w) (hto : more ≤ 9223372036854775807) (h1 : hash.size ≤ 140737488351232) (h2 : end_.size ≤ 140737488351232) (h3 : proof.size ≤ 140737488351232) :
    Calls Tryd.prog 3 #[.int .i64 blocks, .string hash, .int .i64 more, .string end_, .string proof] w fun e w' => e = .returned (.bool true) ∧ Below w.heap.size w w' := by
  have F1 := four_any hash w h1
  have F2 := four_any end_ w h2
  rw [← Pl.be_hashOf] at F1 F2
  rw [← hstr_tstr] at F1 F2
  obtain ⟨x, hx⟩ : ∃ x, Pl.hashOf hash.data.toList = x := ⟨_, rfl⟩
  obtain ⟨y, hy⟩ : ∃ y, Pl.hashOf end_.data.toList = y := ⟨_, rfl⟩
  have hxlt : x < 4294967296 := by rw [← hx]; exact Pl.hashOf_lt _
  have hylt : y < 4294967296 := by rw [← hy]; exact Pl.hashOf_lt _
  rw [hx] at F1
  rw [hy] at F2
  obtain ⟨l, hl⟩ : ∃ l, proof.data.toList = l := ⟨_, rfl⟩
  have hlen : l.length = proof.size := by rw [← hl]; rfl
  have hll : l.length ≤ 140737488351232 := by omega
  have hpr : proof = tstr l := by rw [← hl]; cases proof; simp [tstr]
  have hex := hashOf_hstr x hxlt
  have hey := hashOf_hstr y hylt
  have hle : ∀ W : World, Calls Tryd.prog 7 #[.string proof] W fun e w' => e = .returned (.slice (some ⟨W.heap.size, 0, none⟩) l.length (l.length + 2)) ∧ w' = W.alloc (.cells (lentRow l).toArray 5) := by
    intro W
    rw [hlen, ← hl]
    exact lent_any proof W h3
  have hE : ∀ (A : Option Addr) W, GE W → BytesAt W A l → Calls Tryd.prog 8 #[.int .i64 blocks, .string (hstr x), .int .i64 more, .string (hstr y), .slice A l.length (l.length + 2)] W fun e w' => e = .returned (errA (kindN (Pl.extends_ blocks x more y l)) ⟨#[]⟩) ∧ Below W.heap.size W w' := by
    intro A W hg hb
    have := plainExtends_any blocks more (hstr x) (hstr y) A (l.length + 2) l W hg hto hb hll (by omega)
    rw [hex, hey] at this
    exact this
  have hA : ∀ (b : Nat) W, GE W → BytesAt W (some ⟨b, 0, none⟩) l → b < W.heap.size → Calls Tryd.prog 9 #[.slice (some ⟨b, 0, none⟩) l.length (l.length + 2), .int .i64 more, .string (hstr y)] W (AttP (fun ok => errA (kindN ok) ⟨#[]⟩) W.heap.size W l more y) := by
    intro b W hg hb hlt
    have := plainAttested_any more (hstr y) (some ⟨b, 0, none⟩) (l.length + 2) l W hg hto hb (fun p hp => by cases hp; exact hlt) hll (by omega)
    rw [hey] at this
    exact this
  have hS : ∀ (b : Nat) W, Blk W b 5 (lentRow l) → Calls Tryd.prog 10 #[.slice (some ⟨b, 0, none⟩) l.length (l.length + 2), .string proof] W fun e w' => e = .returned (.bool true) ∧ W.grownBy w' (some b) := by
    intro b W hb
    have := stays_any b proof W h3 (by rw [hl]; exact hb)
    rw [hlen]
    exact this.mono fun e w' h => ⟨h.1, h.2.1⟩
  have hRE := fun W => refExtends_any blocks more x y l W hto hxlt hylt hll
  have hRA := fun W => refAttested_any more y l W hto hylt hll
  rw [← hpr] at hRE hRA
  have HLE := Lib.hid hle
  have HE := Lib.hid hE
  have HA := Lib.hid hA
  have HS := Lib.hid hS
  have HRE := Lib.hid hRE
  have HRA := Lib.hid hRA
  have HF2 := Lib.hid F2
  clear hx hy hl hlen hpr hex hey hle hE hA hS hRE hRA F2
  go_enter Tryd.func3, Tryd.ntmps3
  go_wp2_with fail
  refine F1.mono ?_
  rintro e w' ⟨rfl, rfl⟩
  go_wp2_with fail
  refine HF2.out.mono ?_
  rintro e w' ⟨rfl, rfl⟩
  clear F1
  go_wp2_with fail
  refine (HLE.out _).mono ?_
  rintro e w1 ⟨rfl, rfl⟩
  have L1 := Lib.hid (Blk.new w 5 (lentRow l))
  have B1 := Lib.hid ((Below.refl w.heap.size w).alloc (Nat.le_refl _) (.cells (lentRow l).toArray 5))
  obtain ⟨w1, hw1⟩ : ∃ w1, w.alloc (.cells (lentRow l).toArray 5) = w1 := ⟨_, rfl⟩
  rw [hw1] at L1 B1 ⊢
  obtain ⟨b, hb⟩ : ∃ b, w.heap.size = b := ⟨_, rfl⟩
  rw [hb] at L1 ⊢
  have HBE := Lib.hid hb
  clear hw1 hb
  go_wp2_with fail
  refine (HE.out _ w1 (hG.below B1.out) (lentRow_bytes' L1.out)).mono ?_
  rintro e w2 ⟨rfl, hb2⟩
  have L2 := Lib.hid (L1.out.below hb2 L1.out.lt)
  have B2 := Lib.hid (B1.out.trans (hb2.mono B1.out.size))
  obtain ⟨ok1, hok1⟩ : ∃ ok, Pl.extends_ blocks x more y l = ok := ⟨_, rfl⟩
  have HOK1 := Lib.hid hok1
  rw [hok1]
  obtain ⟨k1, hk1⟩ : ∃ k1 : Int, ((kindN ok1 : Nat) : Int) = k1 := ⟨_, rfl⟩
  have HK1 := Lib.hid hk1
  rw [hk1]
  clear hok1 hb2 hk1
  unfold errA
  go_wp2_with fail
  have E2 := Lib.hid (Blk.new w2 27 [.int .i64 k1, .string ⟨#[]⟩, .bool true])
  have L2a := Lib.hid (L2.out.alloc (.cells #[.int .i64 k1, .string ⟨#[]⟩, .bool true] 27))
  have B2a := Lib.hid (B2.out.alloc B2.out.size (.cells #[.int .i64 k1, .string ⟨#[]⟩, .bool true] 27))
  refine (HA.out b _ (hG.below B2a.out) (lentRow_bytes' L2a.out) L2a.out.lt).mono ?_
  rintro e w3 ⟨v, txt, ok2, rfl, hyes, hno, hb3⟩
  have L3 := Lib.hid (L2a.out.below hb3 L2a.out.lt)
  have B3 := Lib.hid (B2a.out.trans (hb3.mono B2a.out.size))
  have E3 := Lib.hid (E2.out.below hb3 E2.out.lt)
  have HY := Lib.hid (fun h => (⟨(hyes h).1, (hyes h).2⟩ : _ ∧ _))
  have HN := Lib.hid hno
  have hl2 := L2.out.lt
  clear hb3 hyes hno
  obtain ⟨k2, hk2⟩ : ∃ k2 : Int, ((kindN ok2 : Nat) : Int) = k2 := ⟨_, rfl⟩
  have HK2 := Lib.hid hk2
  simp only [hk2]
  clear hk2
  unfold errA
  go_wp2_with fail
  have F3 := Lib.hid (Blk.new w3 27 [.int .i64 k2, .string ⟨#[]⟩, .bool true])
  have L3a := Lib.hid (L3.out.alloc (.cells #[.int .i64 k2, .string ⟨#[]⟩, .bool true] 27))
  have B3a := Lib.hid (B3.out.alloc B3.out.size (.cells #[.int .i64 k2, .string ⟨#[]⟩, .bool true] 27))
  have E3a := Lib.hid (E3.out.alloc (.cells #[.int .i64 k2, .string ⟨#[]⟩, .bool true] 27))
  have HYa := Lib.hid (fun h => (⟨(HY.out h).1, (HY.out h).2.alloc (.cells #[.int .i64 k2, .string ⟨#[]⟩, .bool true] 27)⟩ : _ ∧ _))
  refine (HS.out b _ L3a.out).mono ?_
  rintro e w4 ⟨rfl, hg4⟩
  have hlt3 := E3.out.lt
  have E4 := Lib.hid (E3a.out.grown hg4 (by simp; omega))
  have F4 := Lib.hid (F3.out.grown hg4 (by simp; omega))
  have B4 := Lib.hid (B3a.out.grown hg4 B3a.out.size (fun k hk => by cases hk; rw [HBE.out]; exact Nat.le_refl _))
  have HY4 := Lib.hid (fun h => (⟨(HYa.out h).1, (HYa.out h).2.kept hg4 (.inr (fun e => by have := ((HYa.out h).2.lt _ e).1; simp at this; omega))⟩ : _ ∧ _))
  clear hg4 hl2
  go_wp2_with fail
  refine (HRE.out w4).mono ?_
  rintro e w5 ⟨rfl, hb5⟩
  rw [HOK1.out]
  have E5 := E4.out.below hb5 E4.out.lt
  have F5 := F4.out.below hb5 F4.out.lt
  have B5 := Lib.hid (B4.out.trans (hb5.mono B4.out.size))
  have HY5 := Lib.hid (fun h => (⟨(HY4.out h).1, own_below (HY4.out h).2 hb5⟩ : _ ∧ _))
  have EE5 := Lib.hid E5
  have FF5 := Lib.hid F5
  obtain ⟨c0, c1, c2, f0, f1, f2⟩ := facts3 E5
  clear hb5 E5 F5
  have key : ∀ (W : World) (n : Int), Calls Tryd.prog 12 #[.agg #[.int .i64 n, .string ⟨#[]⟩, .bool true], .int .i64 n] W fun e w' => e = .returned (.bool true) ∧ Below W.heap.size W w' := by
    intro W n
    refine (bare_any n n ⟨#[]⟩ W).mono ?_
    rintro e w' ⟨rfl, h⟩
    exact ⟨by simp, h⟩
  have KEY := Lib.hid key
  clear key
  have rest : ∀ w6 : World, Calls Tryd.prog 13 #[.string proof, .int .i64 more, .string (hstr y)] w6 fun e w' => ∃ txt', (ok2 = true → txt' = txt) ∧ e = .returned (.tuple #[.string (tstr txt'), .bool ok2]) ∧ Below w6.heap.size w6 w' := by
    intro w6
    refine (HRA.out w6).mono ?_
    rintro e w' ⟨txt3, ok3, rfl, hy3, hn3, hb⟩
    cases ok2 with
    | true =>
      have h1 := (HY5.out rfl).1
      cases ok3 with
      | true => exact ⟨txt3, fun _ => by have := hy3 rfl; rw [h1] at this; exact (Option.some.inj this).symm, rfl, hb⟩
      | false => have := hn3 rfl; rw [h1] at this; cases this
    | false =>
      have h1 := (HN.out rfl).1
      cases ok3 with
      | true => have := hy3 rfl; rw [h1] at this; cases this
      | false => exact ⟨txt3, fun h => (by cases h), rfl, hb⟩
  have HREST := Lib.hid rest
  have hs5 := B5.out.size
  clear rest
  have HNV := Lib.hid (fun h : ok2 = false => (HN.out h).2)
  have tail : ∀ (want : Int) (w6 : World), Below w5.heap.size w5 w6 → True := fun _ _ _ => trivial
  clear tail
  cases ok1
  all_goals
    obtain rfl := HK1.out.symm
    simp only [kindN, if_true, if_false, Int.cast_ofNat_Int, Int.natCast_zero, Bool.false_eq_true] at c0
    go_wp2_with fail
    refine (KEY.out _ _).mono ?_
    rintro e w6 ⟨rfl, hb6⟩
    have B6 := Lib.hid (B5.out.trans (hb6.mono hs5))
    have F6 := Lib.hid (FF5.out.below hb6 FF5.out.lt)
    have HY6 := Lib.hid (fun h => (⟨(HY5.out h).1, own_below (HY5.out h).2 hb6⟩ : _ ∧ _))
    clear hb6
    go_wp2_with fail
    refine (HREST.out w6).mono ?_
    rintro e w7 ⟨txt', htx, rfl, hb7⟩
    have B7 := Lib.hid (B6.out.trans (hb7.mono B6.out.size))
    have F7 := F6.out.below hb7 F6.out.lt
    obtain ⟨d0, d1, d2, g0, g1, g2⟩ := facts3 F7
    have HY7 := Lib.hid (fun h => (⟨(HY6.out h).1, own_below (HY6.out h).2 hb7⟩ : _ ∧ _))
    have HTX := Lib.hid htx
    clear hb7 htx F7
    cases ok2
    · obtain rfl := HK2.out.symm
      obtain rfl := HNV.out (by trivial)
      simp only [kindN, if_true, if_false, Int.cast_ofNat_Int, Int.natCast_zero, Bool.false_eq_true] at d0
      have hnl := fun W => Lib.run_eql_slice_nil (P := Tryd.prog) W 23 5 none 0 0 0 0 Tryd.underlying23
      go_wp2_with fail
      refine (KEY.out _ _).mono ?_
      rintro e w8 ⟨rfl, hb8⟩
      go_wp2_with fail
      go_ret
      exact ⟨rfl, B7.out.trans (hb8.mono B7.out.size)⟩
    · obtain rfl := HK2.out.symm
      obtain rfl := HTX.out (by trivial)
      simp only [kindN, if_true, if_false, Int.cast_ofNat_Int, Int.natCast_zero, Bool.false_eq_true] at d0
      go_wp2_with fail
      refine (KEY.out _ _).mono ?_
      rintro e w8 ⟨rfl, hb8⟩
      have hown8 := own_below (HY7.out (by trivial)).2 hb8
      obtain ⟨A, cap, rfl, _, hsrc, _⟩ := own_src hown8
      have hcv := run_tostr w8 A txt' cap (Src.bytes hsrc)
      go_wp2_with fail
      go_ret
      exact ⟨rfl, B7.out.trans (hb8.mono B7.out.size)⟩
end Go.Proofs.YtljmklohgpaopaaDoor
