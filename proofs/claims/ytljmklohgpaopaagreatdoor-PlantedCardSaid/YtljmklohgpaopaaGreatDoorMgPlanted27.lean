/- The harness's pairs: has. The harness's pairs: set. Plain: what set makes of rising pairs. The harness: has a tree just these pairs? Plain: whatever is lost, a log has a beginning of what was appended, and all that was safe. No program in sight. Plain: the harness over a log whose disk may die: what it keeps from step to step. No program in sight. A tree: what a save leaves on the disk; a tree that was opened. -/
import Derived.Test.YtljmklohgpaopaaGreatDoorMgPlanted26
import Derived.BigQuiet
import Derived.Test.YtljmklohgpaopaaGreatDoorMgPlanted20
import Derived.Test.YtljmklohgpaopaaGreatDoorMgPlanted24
set_option linter.unusedVariables false
set_option linter.unusedSimpArgs false

namespace Go.Proofs.YtljmklohgpaopaaGreatDoor
open Go.RowKit
set_option linter.unusedSectionVars false
variable [Inhabited LoT]

/-- The harness's pairs in a slice. -/
def KpAt (w : World) (v : Value) (l : List Pl.Pr) : Prop := ∃ A cap, v = .slice A l.length cap ∧ l.length ≤ cap ∧ TSrc w A (prsCells l) 192
theorem KpAt.only {F : Nat → Prop} {w w' : World} {v : Value} {l : List Pl.Pr} {ts : List TypeId} (h : KpAt w v l) (ho : Only F w w') (hk : Kinds F w ts) (h1 : 192 ∉ ts) : KpAt w' v l := by
  obtain ⟨A, cap, e, hc, hs⟩ := h
  exact ⟨A, cap, e, hc, hs.only ho hk h1⟩
theorem KpAt.below {w w' : World} {v : Value} {l : List Pl.Pr} (h : KpAt w v l) (hb : Below w.heap.size w w') : KpAt w' v l := h.only (Only.of_below hb (fun _ => False)) (kinds_none w) (by simp)
theorem KpAt.sfr {ts : List TypeId} {w w' : World} {v : Value} {l : List Pl.Pr} (h : KpAt w v l) (hf : SFr ts w w') (h1 : 192 ∉ ts) : KpAt w' v l := by
  obtain ⟨A, cap, e, hc, hs⟩ := h
  exact ⟨A, cap, e, hc, hf.tsrc hs h1⟩
theorem KpAt.nil (w : World) : KpAt w (.slice none 0 0) [] := ⟨none, 0, rfl, Nat.le_refl _, .inl rfl, fun p hp => by cases hp⟩
namespace Pl
def hasP (k : Key) (l : List Pr) : Bool := l.any fun p => p.key == k
theorem hasP_take {k : Key} {l : List Pr} {i : Nat} {p : Pr} (hp : l[i]? = some p) : hasP k (l.take (i + 1)) = (hasP k (l.take i) || p.key == k) := by
  unfold hasP
  rw [List.take_add_one, hp, List.any_append]
  simp
theorem hasP_of {k : Key} {l : List Pr} {i : Nat} {p : Pr} (hp : l[i]? = some p) (h : (p.key == k) = true) : hasP k l = true := List.any_eq_true.2 ⟨p, List.mem_of_getElem? hp, h⟩
end Pl
set_option maxRecDepth 100000 in
set_option maxHeartbeats 2000000 in
theorem khas_any (k : Pl.Key) (l : List Pl.Pr) (v : Value) (w : World) (h : KpAt w v l) (hn : l.length ≤ 100000) :
    Calls Tryz.prog 60 #[v, .string (tstr k)] w fun e w' => e = .returned (.bool (Pl.hasP k l)) ∧ w = w' := by
  obtain ⟨A, cap, rfl, hc, hs⟩ := h
  obtain ⟨n, hnl⟩ : ∃ n, l.length = n := ⟨_, rfl⟩
  rw [hnl] at hn hc ⊢
  have HN := Lib.hid hnl
  have HS := Lib.hid hs
  obtain ⟨st, hst⟩ : ∃ st, tstr k = st := ⟨_, rfl⟩
  have HST := Lib.hid hst
  rw [hst]
  clear hs hnl hst
  go_enter Tryz.func60, Tryz.ntmps60
  go_wp2_with fail
  go_loopw [5] (fun i wr => ∃ j : Nat, j ≤ n ∧ i = .int .i64 (j : Int) ∧ Hid (Pl.hasP k (l.take j) = false) ∧ w = wr) (fun i _ => n - (intOf i).toNat)
  case atStart => exact ⟨0, Nat.zero_le _, rfl, rfl, rfl⟩
  case round =>
    obtain ⟨j, hj, rfl, HP, rfl⟩ := hrel
    by_cases hjn : j < n
    · obtain ⟨p, hp⟩ : ∃ p, l[j]? = some p := ⟨_, List.getElem?_eq_getElem (by rw [HN.out]; exact hjn)⟩
      have at_ := flat_at (f := prCells) (s := 2) (fun _ => rfl) l j p hp
      obtain ⟨b2, off, rfl, g0⟩ := HS.out.1.at_ _ _ (at_ 0 (by omega))
      rw [Nat.add_zero] at g0
      have q1 : (j : Int) < (n : Int) := by omega
      have hwj : IntKind.i64.wrap ((j : Int) + 1) = (j : Int) + 1 := IntWalk.i64_in _ (by omega)
      have hbq := tstr_beq p.key k
      obtain ⟨sx, hsx⟩ : ∃ st, tstr p.key = st := ⟨_, rfl⟩
      rw [HST.out, hsx] at hbq
      have hg0 : w.cell? ⟨b2, off + j * 2, none⟩ = some (.string sx) := by rw [← hsx]; exact g0
      have HTK := Lib.hid (Pl.hasP_take (k := k) hp)
      have HOF := Lib.hid (Pl.hasP_of (k := k) hp)
      obtain ⟨Bq, hBq⟩ : ∃ b, (p.key == k) = b := ⟨_, rfl⟩
      rw [hBq] at hbq HTK HOF
      clear at_ g0 hp hBq
      cases Bq
      · go_wp2_with fail
        exact ⟨⟨j + 1, by omega, by go_num, by rw [Hid, HTK.out, HP.out]; rfl, by trivial⟩, by simp [intOf]; omega⟩
      · have HOF' := Lib.hid (HOF.out rfl)
        go_wp2_with fail
        go_ret
        exact ⟨by rw [HOF'.out]; rfl, by trivial⟩
    · obtain rfl : j = n := by omega
      have q1 : decide ((j : Int) < (j : Int)) = false := decide_eq_false (by omega)
      go_wp2_with fail
      go_ret
      have h8 := HP.out
      rw [List.take_of_length_le (by rw [HN.out]; omega)] at h8
      exact ⟨by rw [h8]; rfl, by trivial⟩
end Go.Proofs.YtljmklohgpaopaaGreatDoor

namespace Go.Proofs.YtljmklohgpaopaaGreatDoor
open Go.RowKit
set_option linter.unusedSectionVars false
variable [Inhabited LoT]

namespace Pl
def stp (k v : Key) (s : List Pr × Bool) (p : Pr) : List Pr × Bool :=
  if p.key = k then s else if k < p.key ∧ s.2 = false then (s.1 ++ [⟨k, v⟩] ++ [p], true) else (s.1 ++ [p], s.2)
def stps (k v : Key) (take : Bool) (l : List Pr) : List Pr × Bool := l.foldl (stp k v) ([], take)
def setL (k v : Key) (take : Bool) (l : List Pr) : List Pr := if (stps k v take l).2 then (stps k v take l).1 else (stps k v take l).1 ++ [⟨k, v⟩]
theorem stps_snoc {k v : Key} {take : Bool} {l : List Pr} {i : Nat} {p : Pr} (hp : l[i]? = some p) : stps k v take (l.take (i + 1)) = stp k v (stps k v take (l.take i)) p := by
  unfold stps
  rw [List.take_add_one, hp, List.foldl_append]
  rfl
end Pl
theorem Tryz.eltKPair : Elt 76 192 2 := by
  obtain ⟨i, h1, h2, h3, h4⟩ := info_parts (show (Tryz.prog.info? 192).map (fun i => (i.zero, i.size, i.bytes)) = some (some (.agg #[.string ⟨#[]⟩, .string ⟨#[]⟩]), 2, 32) by kernel_rfl)
  exact ⟨Tryz.underlying76, ⟨i, _, h1, h2, h3, by omega, rfl⟩, by omega⟩
/-- The harness's pairs that a call makes. -/
def KpOwn (w : World) (base : Nat) (v : Value) (l : List Pl.Pr) : Prop := Rw 192 2 w base v l.length (prsCells l)
theorem KpOwn.at_ {w : World} {base : Nat} {v : Value} {l : List Pl.Pr} (h : KpOwn w base v l) : KpAt w v l := by
  obtain ⟨A, cap, rfl, h1, h2, _⟩ := h.tsrc
  exact ⟨A, cap, rfl, h1, h2⟩
theorem KpOwn.snoc {w : World} {base : Nat} {v : Value} {l : List Pl.Pr} {q : Pl.Pr} (h : Rw 192 2 w base v (l.length + 1) (prsCells l ++ prsCells [q])) : KpOwn w base v (l ++ [q]) := by
  unfold KpOwn
  rw [prsCells_append, List.length_append]
  exact h
theorem Mv.since' {w0 a b : World} {u v : Value} {e : TypeId} {s n base : Nat} {cs : List Value} (hbase : w0.heap.size = base) (hb : Below w0.heap.size w0 a) (hr : Rw e s a base u n cs) (h : Mv a b u v) : Below w0.heap.size w0 b := by
  subst hbase
  exact Mv.since hb hr h
set_option maxRecDepth 100000 in
set_option maxHeartbeats 4000000 in
theorem set_any (k v : Pl.Key) (take : Bool) (l : List Pl.Pr) (lv : Value) (w : World) (h : KpAt w lv l) (hn : l.length ≤ 100000) :
    Calls Tryz.prog 58 #[lv, .string (tstr k), .string (tstr v), .bool take] w fun e w' => ∃ v', e = .returned v' ∧ KpOwn w' w.heap.size v' (Pl.setL k v take l) ∧ Below w.heap.size w w' := by
  obtain ⟨A, cap, rfl, hc, hs⟩ := h
  obtain ⟨n, hnl⟩ : ∃ n, l.length = n := ⟨_, rfl⟩
  rw [hnl] at hn hc ⊢
  have HN := Lib.hid hnl
  have HS := Lib.hid hs
  obtain ⟨st, hst⟩ : ∃ st, tstr k = st := ⟨_, rfl⟩
  have HST := Lib.hid hst
  obtain ⟨sv, hsv⟩ : ∃ st, tstr v = st := ⟨_, rfl⟩
  have HSV := Lib.hid hsv
  rw [hst, hsv]
  obtain ⟨base, hbase⟩ : ∃ b, w.heap.size = b := ⟨_, rfl⟩
  have HBA := Lib.hid hbase
  rw [hbase]
  clear hs hnl hst hsv hbase
  go_enter Tryz.func58, Tryz.ntmps58
  go_wp2_with fail
  go_loopw [9, 10, 11] (fun ov iv i wr => ∃ (j : Nat) (o : List Pl.Pr) (b : Bool), j ≤ n ∧ i = .int .i64 (j : Int) ∧ iv = .bool b ∧ Hid (KpOwn wr base ov o) ∧ Hid (Pl.stps k v take (l.take j) = (o, b)) ∧ Hid (o.length ≤ 2 * j) ∧ Hid (Below w.heap.size w wr)) (fun _ _ i _ => n - (intOf i).toNat)
  case atStart => exact ⟨0, [], take, Nat.zero_le _, rfl, rfl, Rw.nil _ _, rfl, Nat.le_refl _, Below.refl _ _⟩
  case round =>
    obtain ⟨j, o, b, hj, rfl, rfl, HO, HP, HL, HB⟩ := hrel
    obtain ⟨A0, cap0, rfl, _, _, _⟩ := Rw.tsrc HO.out
    by_cases hjn : j < n
    · obtain ⟨p, hp⟩ : ∃ p, l[j]? = some p := ⟨_, List.getElem?_eq_getElem (by rw [HN.out]; exact hjn)⟩
      have q1 : (j : Int) < (n : Int) := by omega
      have hwj : IntKind.i64.wrap ((j : Int) + 1) = (j : Int) + 1 := IntWalk.i64_in _ (by omega)
      have hbq := tstr_beq p.key k
      have hbl := str_less k p.key
      obtain ⟨sx, hsx⟩ : ∃ st, tstr p.key = st := ⟨_, rfl⟩
      obtain ⟨sy, hsy⟩ : ∃ st, tstr p.val = st := ⟨_, rfl⟩
      rw [HST.out, hsx] at hbq hbl
      have HCL : Hid (∀ W, Below w.heap.size w W → ∃ b2 off, A = some ⟨b2, off, none⟩ ∧ W.cell? ⟨b2, off + j * 2, none⟩ = some (.string sx) ∧ W.cell? ⟨b2, off + j * 2 + 1, none⟩ = some (.string sy)) := fun W hW => by
        have at_ := flat_at (f := prCells) (s := 2) (fun _ => rfl) l j p hp
        have hsr := (HS.out.below hW).1
        obtain ⟨b2, off, hA, g0⟩ := hsr.at_ _ _ (at_ 0 (by omega))
        subst hA
        have g1 := hsr.cell _ _ (at_ 1 (by omega))
        rw [← Nat.add_assoc] at g1
        rw [Nat.add_zero] at g0
        exact ⟨b2, off, rfl, by rw [← hsx]; exact g0, by rw [← hsy]; exact g1⟩
      have HXY : Hid (tstr p.key = sx ∧ tstr p.val = sy) := ⟨hsx, hsy⟩
      have HTK : Hid (Pl.stps k v take (l.take (j + 1)) = Pl.stp k v (o, b) p) := by rw [Hid, Pl.stps_snoc hp, HP.out]
      obtain ⟨b2, off, rfl, g0, g1⟩ := HCL.out _ HB.out
      have HCL2 : Hid (∀ W, Below w.heap.size w W → W.cell? ⟨b2, off + j * 2, none⟩ = some (.string sx) ∧ W.cell? ⟨b2, off + j * 2 + 1, none⟩ = some (.string sy)) := fun W hW => by
        obtain ⟨b3, o3, e3, h3⟩ := HCL.out W hW
        injection e3 with e3
        injection e3 with e3 e4 _
        subst e3; subst e4
        exact h3
      clear hp HCL hsx hsy
      by_cases hk : p.key = k
      · have hk1 : (p.key == k) = true := by rw [hk]; simp
        rw [hk1] at hbq
        have HTK2 : Hid (Pl.stps k v take (l.take (j + 1)) = (o, b)) := by rw [Hid, HTK.out]; unfold Pl.stp; rw [if_pos hk]
        clear hk hk1 hbl
        go_wp2_with fail
        exact ⟨⟨j + 1, o, b, by omega, by go_num, rfl, HO.out, HTK2.out, Nat.le_trans HL.out (by omega), HB.out⟩, by simp [intOf]; omega⟩
      · have hk1 : (p.key == k) = false := by simpa using hk
        rw [hk1] at hbq
        by_cases hc : k < p.key ∧ b = false
        · obtain ⟨hc1, rfl⟩ := hc
          rw [decide_eq_true hc1] at hbl
          have hbm := str_less p.key k
          rw [HST.out, HXY.out.1, decide_eq_false (Pl.kasymm hc1)] at hbm
          have HTK2 : Hid (Pl.stps k v take (l.take (j + 1)) = (o ++ [⟨k, v⟩] ++ [p], true)) := by rw [Hid, HTK.out]; unfold Pl.stp; rw [if_neg hk, if_pos ⟨hc1, rfl⟩]
          clear hk hk1 hc1
          obtain ⟨gs1, hgs1⟩ : ∃ g, wr.heap.size = g := ⟨_, rfl⟩
          obtain ⟨wa1, hwa1⟩ : ∃ x, wr.alloc (.cells #[.string st, .string sv] 192) = x := ⟨_, rfl⟩
          have hb1 : Below wr.heap.size wr wa1 := by rw [← hwa1]; exact (Below.refl _ _).alloc (Nat.le_refl _) _
          have HS1 : Hid (Src wa1 (some ⟨gs1, 0, none⟩) (prsCells [(⟨k, v⟩ : Pl.Pr)])) := by
            have h9 : prsCells [(⟨k, v⟩ : Pl.Pr)] = [.string st, .string sv] := by show [Value.string (tstr k), Value.string (tstr v)] = _; rw [HST.out, HSV.out]
            rw [Hid, h9, ← hwa1, ← hgs1]; exact Src.of_blk (Blk.new wr 192 _)
          have R1 := Lib.hid (Rw.below HO.out hb1)
          have HB1 := Lib.hid (Below.trans HB.out (hb1.mono (Below.size HB.out)))
          clear hb1
          go_wp2_with (first
            | (at_builtin
               refine wpList_rw Tryz.eltKPair rfl (.tmp 37) (.tmp 41) rfl rfl R1.out (some ⟨gs1, 0, none⟩) 1 1 (prsCells [(⟨k, v⟩ : Pl.Pr)]) rfl rfl HS1.out (prsCells_one _) (by have := HL.out; omega) (by have := HB1.out.size; have := HBA.out; omega) ?_
               intro v1 w1 r1 m1
               obtain ⟨Av1, cv1, rfl, _, _, _⟩ := Rw.tsrc r1
               have HO1 := Lib.hid (KpOwn.snoc r1)
               have HD1 := Lib.hid (Mv.since' HBA.out HB1.out R1.out m1)
               clear r1 m1
               obtain ⟨g0, g1⟩ := HCL2.out _ HD1.out
               obtain ⟨gs2, hgs2⟩ : ∃ g, w1.heap.size = g := ⟨_, rfl⟩
               obtain ⟨wa2, hwa2⟩ : ∃ x, w1.alloc (.cells #[.string sx, .string sy] 192) = x := ⟨_, rfl⟩
               have hb2 : Below w1.heap.size w1 wa2 := by rw [← hwa2]; exact (Below.refl _ _).alloc (Nat.le_refl _) _
               have HS2 : Hid (Src wa2 (some ⟨gs2, 0, none⟩) (prsCells [p])) := by
                 have h9 : prsCells [p] = [.string sx, .string sy] := by show [Value.string (tstr p.key), Value.string (tstr p.val)] = _; rw [HXY.out.1, HXY.out.2]
                 rw [Hid, h9, ← hwa2, ← hgs2]; exact Src.of_blk (Blk.new w1 192 _)
               have R2 := Lib.hid (Rw.below HO1.out hb2)
               have HB2 := Lib.hid (Below.trans HD1.out (hb2.mono (Below.size HD1.out)))
               clear hb2)
            | (at_builtin
               refine wpList_rw Tryz.eltKPair rfl (.tmp 43) (.tmp 48) rfl rfl R2.out (some ⟨gs2, 0, none⟩) 1 1 (prsCells [p]) rfl rfl HS2.out (prsCells_one _) (by have := HL.out; rw [List.length_append, List.length_singleton]; omega) (by have := HB2.out.size; have := HBA.out; omega) ?_
               intro v2 w2 r2 m2
               obtain ⟨Av2, cv2, rfl, _, _, _⟩ := Rw.tsrc r2
               have HO2 := Lib.hid (KpOwn.snoc r2)
               have HD2 := Lib.hid (Mv.since' HBA.out HB2.out R2.out m2)
               clear r2 m2
               skip)
            | fail)
          have e1 : (o ++ [(⟨k, v⟩ : Pl.Pr)]).length = o.length + 1 := by rw [List.length_append, List.length_singleton]
          exact ⟨⟨j + 1, o ++ [(⟨k, v⟩ : Pl.Pr)] ++ [p], true, by omega, by go_num, rfl, (by have h := HO2.out; rw [e1] at h; exact h), HTK2.out, by rw [Hid]; have := HL.out; simp only [List.length_append, List.length_singleton]; omega, HD2.out⟩, by simp [intOf]; omega⟩
        · have HTK2 : Hid (Pl.stps k v take (l.take (j + 1)) = (o ++ [p], b)) := by rw [Hid, HTK.out]; unfold Pl.stp; rw [if_neg hk, if_neg hc]
          have hbm := str_less p.key k
          have hbe : decide (p.key < k) = !decide (k < p.key) := by
            by_cases hz : k < p.key
            · rw [decide_eq_true hz, decide_eq_false (Pl.kasymm hz)]; rfl
            · rw [decide_eq_false hz, decide_eq_true]; rfl
              by_cases hy : p.key < k
              · exact hy
              · exact absurd (Pl.ktri hy hz) hk
          rw [HST.out, HXY.out.1, hbe] at hbm
          have hor : decide (k < p.key) = false ∨ b = true := by
            cases b
            · exact .inl (decide_eq_false fun e => hc ⟨e, rfl⟩)
            · exact .inr rfl
          clear hk hk1 hc
          obtain ⟨gs2, hgs2⟩ : ∃ g, wr.heap.size = g := ⟨_, rfl⟩
          obtain ⟨wa2, hwa2⟩ : ∃ x, wr.alloc (.cells #[.string sx, .string sy] 192) = x := ⟨_, rfl⟩
          have hb2 : Below wr.heap.size wr wa2 := by rw [← hwa2]; exact (Below.refl _ _).alloc (Nat.le_refl _) _
          have HS2 : Hid (Src wa2 (some ⟨gs2, 0, none⟩) (prsCells [p])) := by
            have h9 : prsCells [p] = [.string sx, .string sy] := by show [Value.string (tstr p.key), Value.string (tstr p.val)] = _; rw [HXY.out.1, HXY.out.2]
            rw [Hid, h9, ← hwa2, ← hgs2]; exact Src.of_blk (Blk.new wr 192 _)
          have R2 := Lib.hid (Rw.below HO.out hb2)
          have HB2 := Lib.hid (Below.trans HB.out (hb2.mono (Below.size HB.out)))
          clear hb2
          rcases hor with hor | rfl
          · rw [hor] at hbl hbm
            simp only [Bool.not_false] at hbm
            clear hor hbe
            go_wp2_with (first
              | (at_builtin
                 refine wpList_rw Tryz.eltKPair rfl (.tmp 43) (.tmp 48) rfl rfl R2.out (some ⟨gs2, 0, none⟩) 1 1 (prsCells [p]) rfl rfl HS2.out (prsCells_one _) (by have := HL.out; omega) (by have := HB2.out.size; have := HBA.out; omega) ?_
                 intro v2 w2 r2 m2
                 obtain ⟨Av2, cv2, rfl, _, _, _⟩ := Rw.tsrc r2
                 have HO2 := Lib.hid (KpOwn.snoc r2)
                 have HD2 := Lib.hid (Mv.since' HBA.out HB2.out R2.out m2)
                 clear r2 m2
                 skip)
              | fail)
            exact ⟨⟨j + 1, o ++ [p], _, by omega, by go_num, rfl, HO2.out, HTK2.out, by rw [Hid]; have := HL.out; simp only [List.length_append, List.length_singleton]; omega, HD2.out⟩, by simp [intOf]; omega⟩
          · obtain ⟨bl, hbl2⟩ : ∃ x, decide (k < p.key) = x := ⟨_, rfl⟩
            rw [hbl2] at hbl hbm
            clear hbl2 hbe
            cases bl <;> simp only [Bool.not_false, Bool.not_true] at hbm
            · go_wp2_with (first
                | (at_builtin
                   refine wpList_rw Tryz.eltKPair rfl (.tmp 43) (.tmp 48) rfl rfl R2.out (some ⟨gs2, 0, none⟩) 1 1 (prsCells [p]) rfl rfl HS2.out (prsCells_one _) (by have := HL.out; omega) (by have := HB2.out.size; have := HBA.out; omega) ?_
                   intro v2 w2 r2 m2
                   obtain ⟨Av2, cv2, rfl, _, _, _⟩ := Rw.tsrc r2
                   have HO2 := Lib.hid (KpOwn.snoc r2)
                   have HD2 := Lib.hid (Mv.since' HBA.out HB2.out R2.out m2)
                   clear r2 m2
                   skip)
                | fail)
              exact ⟨⟨j + 1, o ++ [p], _, by omega, by go_num, rfl, HO2.out, HTK2.out, by rw [Hid]; have := HL.out; simp only [List.length_append, List.length_singleton]; omega, HD2.out⟩, by simp [intOf]; omega⟩
            · go_wp2_with (first
                | (at_builtin
                   refine wpList_rw Tryz.eltKPair rfl (.tmp 43) (.tmp 48) rfl rfl R2.out (some ⟨gs2, 0, none⟩) 1 1 (prsCells [p]) rfl rfl HS2.out (prsCells_one _) (by have := HL.out; omega) (by have := HB2.out.size; have := HBA.out; omega) ?_
                   intro v2 w2 r2 m2
                   obtain ⟨Av2, cv2, rfl, _, _, _⟩ := Rw.tsrc r2
                   have HO2 := Lib.hid (KpOwn.snoc r2)
                   have HD2 := Lib.hid (Mv.since' HBA.out HB2.out R2.out m2)
                   clear r2 m2
                   skip)
                | fail)
              exact ⟨⟨j + 1, o ++ [p], _, by omega, by go_num, rfl, HO2.out, HTK2.out, by rw [Hid]; have := HL.out; simp only [List.length_append, List.length_singleton]; omega, HD2.out⟩, by simp [intOf]; omega⟩
    · obtain rfl : j = n := by omega
      have q1 : decide ((j : Int) < (j : Int)) = false := decide_eq_false (by omega)
      have HP2 : Hid (Pl.stps k v take l = (o, b)) := by have := HP.out; rwa [List.take_of_length_le (by rw [HN.out]; omega)] at this
      cases b
      · have HSL : Hid (Pl.setL k v take l = o ++ [⟨k, v⟩]) := by rw [Hid]; unfold Pl.setL; rw [HP2.out]; rfl
        obtain ⟨gs1, hgs1⟩ : ∃ g, wr.heap.size = g := ⟨_, rfl⟩
        obtain ⟨wa1, hwa1⟩ : ∃ x, wr.alloc (.cells #[.string st, .string sv] 192) = x := ⟨_, rfl⟩
        have hb1 : Below wr.heap.size wr wa1 := by rw [← hwa1]; exact (Below.refl _ _).alloc (Nat.le_refl _) _
        have HS1 : Hid (Src wa1 (some ⟨gs1, 0, none⟩) (prsCells [(⟨k, v⟩ : Pl.Pr)])) := by
          have h9 : prsCells [(⟨k, v⟩ : Pl.Pr)] = [.string st, .string sv] := by show [Value.string (tstr k), Value.string (tstr v)] = _; rw [HST.out, HSV.out]
          rw [Hid, h9, ← hwa1, ← hgs1]; exact Src.of_blk (Blk.new wr 192 _)
        have R1 := Lib.hid (Rw.below HO.out hb1)
        have HB1 := Lib.hid (Below.trans HB.out (hb1.mono (Below.size HB.out)))
        clear hb1
        go_wp2_with (first
          | (at_builtin
             refine wpList_rw Tryz.eltKPair rfl (.tmp 52) (.tmp 56) rfl rfl R1.out (some ⟨gs1, 0, none⟩) 1 1 (prsCells [(⟨k, v⟩ : Pl.Pr)]) rfl rfl HS1.out (prsCells_one _) (by have := HL.out; omega) (by have := HB1.out.size; have := HBA.out; omega) ?_
             intro v1 w1 r1 m1
             obtain ⟨Av1, cv1, rfl, _, _, _⟩ := Rw.tsrc r1
             have HO1 := Lib.hid (KpOwn.snoc r1)
             have HD1 := Lib.hid (Mv.since' HBA.out HB1.out R1.out m1)
             clear r1 m1
             skip)
          | fail)
        go_ret
        exact ⟨_, rfl, by rw [HSL.out]; exact HO1.out, HBA.out ▸ HD1.out⟩
      · have HSL : Hid (Pl.setL k v take l = o) := by rw [Hid]; unfold Pl.setL; rw [HP2.out]; rfl
        go_wp2_with fail
        go_ret
        exact ⟨_, rfl, by rw [HSL.out]; exact HO.out, HBA.out ▸ HB.out⟩
end Go.Proofs.YtljmklohgpaopaaGreatDoor

namespace Go.Proofs.YtljmklohgpaopaaGreatDoor
namespace Pl
theorem srt_parts (k : Key) : ∀ ps : List Pr, Srt ps → ∃ A M B, ps = A ++ (M ++ B) ∧ (∀ a ∈ A, a.key < k) ∧ (M = [] ∨ ∃ m : Pr, M = [m] ∧ m.key = k) ∧ ∀ b ∈ B, k < b.key
  | [], _ => ⟨[], [], [], rfl, by simp, .inl rfl, by simp⟩
  | p :: ps, h => by
    obtain ⟨h1, h2⟩ := List.pairwise_cons.1 h
    by_cases hp : p.key < k
    · obtain ⟨A, M, B, e, a1, a2, a3⟩ := srt_parts k ps h2
      exact ⟨p :: A, M, B, by rw [e]; rfl, fun a ha => by rcases List.mem_cons.1 ha with rfl | ha; exact hp; exact a1 a ha, a2, a3⟩
    · by_cases hk : k < p.key
      · exact ⟨[], [], p :: ps, rfl, by simp, .inl rfl, fun b hb => by rcases List.mem_cons.1 hb with rfl | hb; exact hk; exact ktrans hk (h1 b hb)⟩
      · have e : p.key = k := ktri hp hk
        exact ⟨[], [p], ps, rfl, by simp, .inr ⟨p, rfl, e⟩, fun b hb => e ▸ h1 b hb⟩
theorem fold_lt {k v : Key} : ∀ (A : List Pr) (o : List Pr) (i : Bool), (∀ a ∈ A, a.key < k) → A.foldl (stp k v) (o, i) = (o ++ A, i)
  | [], o, i, _ => by simp
  | a :: A, o, i, h => by
    have h1 := h a (by simp)
    have e : stp k v (o, i) a = (o ++ [a], i) := by unfold stp; rw [if_neg (kne h1), if_neg (fun x => kasymm h1 x.1)]
    rw [List.foldl_cons, e, fold_lt A _ _ (fun x hx => h x (List.mem_cons_of_mem _ hx))]
    simp
theorem fold_gt {k v : Key} : ∀ (B : List Pr) (o : List Pr), (∀ b ∈ B, k < b.key) → B.foldl (stp k v) (o, true) = (o ++ B, true)
  | [], o, _ => by simp
  | b :: B, o, h => by
    have h1 := h b (by simp)
    have e : stp k v (o, true) b = (o ++ [b], true) := by unfold stp; rw [if_neg (fun e => kne h1 e.symm), if_neg (fun x => by cases x.2)]
    rw [List.foldl_cons, e, fold_gt B _ (fun x hx => h x (List.mem_cons_of_mem _ hx))]
    simp
theorem fold_eq {k v : Key} {M : List Pr} (h : M = [] ∨ ∃ m : Pr, M = [m] ∧ m.key = k) (s : List Pr × Bool) : M.foldl (stp k v) s = s := by
  rcases h with rfl | ⟨m, rfl, hm⟩
  · rfl
  · show stp k v s m = s
    unfold stp
    rw [if_pos hm]
theorem setL_parts {k v : Key} {A M B : List Pr} (hA : ∀ a ∈ A, a.key < k) (hM : M = [] ∨ ∃ m : Pr, M = [m] ∧ m.key = k) (hB : ∀ b ∈ B, k < b.key) : setL k v false (A ++ (M ++ B)) = A ++ ⟨k, v⟩ :: B := by
  unfold setL stps
  rw [List.foldl_append, List.foldl_append, fold_lt A _ _ hA, fold_eq hM]
  cases B with
  | nil => simp
  | cons b B =>
    have h1 := hB b (by simp)
    have e : stp k v ([] ++ A, false) b = ([] ++ A ++ [⟨k, v⟩] ++ [b], true) := by unfold stp; rw [if_neg (fun e => kne h1 e.symm), if_pos ⟨h1, rfl⟩]
    rw [List.foldl_cons, e, fold_gt B _ (fun x hx => hB x (List.mem_cons_of_mem _ hx))]
    simp
theorem setL_parts' {k v : Key} {A M B : List Pr} (hA : ∀ a ∈ A, a.key < k) (hM : M = [] ∨ ∃ m : Pr, M = [m] ∧ m.key = k) (hB : ∀ b ∈ B, k < b.key) : setL k v true (A ++ (M ++ B)) = A ++ B := by
  unfold setL stps
  rw [List.foldl_append, List.foldl_append, fold_lt A _ _ hA, fold_eq hM, fold_gt B _ hB]
  simp
theorem place_parts {k : Key} {A M B : List Pr} (hA : ∀ a ∈ A, a.key < k) (hM : M = [] ∨ ∃ m : Pr, M = [m] ∧ m.key = k) (hB : ∀ b ∈ B, k < b.key) : placeOf (A ++ (M ++ B)) k = A.length := by
  rw [placeOf_append hA]
  have : placeOf (M ++ B) k = 0 := by
    unfold placeOf
    rcases hM with rfl | ⟨m, rfl, hm⟩
    · cases B with
      | nil => rfl
      | cons b B =>
        have h1 := hB b (by simp)
        rw [List.nil_append, List.takeWhile_cons, if_neg (by simpa using kasymm h1)]
        rfl
    · rw [List.singleton_append, List.takeWhile_cons, if_neg (by rw [hm]; simp)]
      rfl
  omega
/-- set is what Put does to the pairs. -/
theorem setL_put {k v : Key} {ps : List Pr} (h : Srt ps) : setL k v false ps = putL k v ps := by
  obtain ⟨A, M, B, rfl, hA, hM, hB⟩ := srt_parts k ps h
  rw [setL_parts hA hM hB, putL_eq]
  unfold restOf
  rw [place_parts hA hM hB, List.take_left' rfl, List.getElem?_append_right (Nat.le_refl _), Nat.sub_self]
  rcases hM with rfl | ⟨m, rfl, hm⟩
  · cases B with
    | nil => simp
    | cons b B =>
      have h1 := hB b (by simp)
      simp [(kne h1).symm]
  · simp [hm, ← List.drop_drop]
/-- set without a key is what Take does to the pairs. -/
theorem setL_del {k v : Key} {ps : List Pr} (h : Srt ps) (hk : hasL k ps = true) : setL k v true ps = delL k ps := by
  obtain ⟨A, M, B, rfl, hA, hM, hB⟩ := srt_parts k ps h
  rw [setL_parts' hA hM hB]
  unfold delL
  unfold hasL at hk
  rw [place_parts hA hM hB] at hk ⊢
  rw [List.getElem?_append_right (Nat.le_refl _), Nat.sub_self] at hk
  rw [List.take_left' rfl]
  rcases hM with rfl | ⟨m, rfl, hm⟩
  · cases B with
    | nil => simp at hk
    | cons b B =>
      have h1 := hB b (by simp)
      simp [(kne h1).symm] at hk
  · simp [← List.drop_drop]
/-- has is whether the pairs have the key. -/
theorem hasP_has {k : Key} {ps : List Pr} (h : Srt ps) : hasP k ps = hasL k ps := by
  obtain ⟨A, M, B, rfl, hA, hM, hB⟩ := srt_parts k ps h
  unfold hasP hasL
  rw [place_parts hA hM hB, List.getElem?_append_right (Nat.le_refl _), Nat.sub_self, List.any_append, List.any_append]
  have a1 : (A.any fun p => p.key == k) = false := List.any_eq_false.2 (fun a ha => by simpa using kne (hA a ha))
  have b1 : (B.any fun p => p.key == k) = false := List.any_eq_false.2 (fun b hb => by simpa using (fun e => kne (hB b hb) e.symm))
  rw [a1, b1]
  rcases hM with rfl | ⟨m, rfl, hm⟩
  · cases B with
    | nil => rfl
    | cons b B =>
      have h1 := hB b (by simp)
      simp [(kne h1).symm]
  · simp [hm]
end Pl
end Go.Proofs.YtljmklohgpaopaaGreatDoor

namespace Go.Proofs.YtljmklohgpaopaaGreatDoor
open Go.RowKit
set_option linter.unusedSectionVars false
variable [Inhabited LoT]

/-- What same leaves. -/
def SmQ (E : TEnv) (G : Gh) (w w' : World) : Prop := ∃ G' rd', TW E w' rd' G' ∧ Ext G G' ∧ ScnFr w w'
set_option maxRecDepth 100000 in
set_option maxHeartbeats 4000000 in
theorem same_any (E : TEnv) (l : List Pl.Pr) (lv : Value) (hn : E.m.n ≤ 4096) (hl : E.d.life ≠ 0) (hbad : E.m.bad = false) (h : Nat) (t : Pl.Tr h) (w : World) (rd : Int) (G : Gh) (hw : TW E w rd G) (hG : G E.m.root = some ⟨h, t⟩) (hok : Pl.RootOk ⟨h, t⟩) (hh : h ≤ 62) (hev : EvAt w) (hge : GE w)
    (hps : (Pl.prs h t).length ≤ 100000) (hkp : KpAt w lv l) (hln : l.length + 1 ≤ 100000) :
    Calls Tryz.prog 65 #[.pointer (some ⟨E.gT, 0, none⟩), lv] w fun e w' => ∃ b : Bool, e = .returned (.bool b) ∧ (b = true ↔ Pl.prs h t = l) ∧ SmQ E G w w' := by
  have HPA := Lib.hid (ppairs_any E (l.length + 1) hn hl hbad hln (by omega) h t w rd G hw hG hok hh hev hge hps)
  obtain ⟨PS, hPS⟩ : ∃ x, Pl.prs h t = x := ⟨_, rfl⟩
  rw [hPS] at HPA hps ⊢
  obtain ⟨A, cap, rfl, hc, hs⟩ := hkp
  obtain ⟨n, hnl⟩ : ∃ n, l.length = n := ⟨_, rfl⟩
  rw [hnl] at HPA hln hc ⊢
  rw [show (((n + 1 : Nat) : Int)) = (n : Int) + 1 from by omega] at HPA
  have hwn : IntKind.i64.wrap ((n : Int) + 1) = (n : Int) + 1 := IntWalk.i64_in _ (by omega)
  have HN := Lib.hid hnl
  have HS := Lib.hid hs
  have HPL := Lib.hid hps
  have q3 := fun W => fine_any 0 W
  unfold errA at q3
  clear hw hG hok hev hge hps hs hnl hPS
  go_enter Tryz.func65, Tryz.ntmps65
  go_wp2_with fail
  refine HPA.out.mono ?_
  rintro e w2 ⟨v, rfl, G2, rd2, k1, k2, k3, k4⟩
  obtain ⟨cs, hrw, hrr⟩ := k3
  obtain ⟨Ap, cp, rfl, _, hsp, _⟩ := Rw.tsrc hrw
  have HS2 := Lib.hid (k4.1.tsrc HS.out (by decide))
  have HW2 := Lib.hid k1
  have HE2 := Lib.hid k2
  have HF2 := Lib.hid k4
  have HRR := Lib.hid hrr
  have HSM : Hid (∀ W, Below w2.heap.size w2 W → SmQ E G w W) := fun W hW => ⟨G2, rd2, HW2.out.below hW, HE2.out, HF2.out.trans (ScnFr.of_below hW)⟩
  have HRW := Lib.hid hsp
  have htl : (PS.take (n + 1)).length = min (n + 1) PS.length := List.length_take
  obtain ⟨m, hm⟩ : ∃ m, (PS.take (n + 1)).length = m := ⟨_, rfl⟩
  rw [hm] at htl ⊢
  have HM := Lib.hid hm
  have HTL := Lib.hid htl
  clear htl
  obtain ⟨w3, hw3⟩ : ∃ x, w2.alloc (.cells #[.int .i64 0, .string ⟨#[]⟩, .bool true] 28) = x := ⟨_, rfl⟩
  have HB3 : Hid (Below w2.heap.size w2 w3) := by rw [Hid, ← hw3]; exact (Below.refl _ _).alloc (Nat.le_refl _) _
  have B3 : Blk w3 w2.heap.size 28 [.int .i64 0, .string ⟨#[]⟩, .bool true] := by rw [← hw3]; exact Blk.new w2 28 _
  obtain ⟨c0, c1, c2, _, _, _⟩ := facts3 B3
  clear k1 k2 k4 hrr hrw hsp hm B3
  unfold errA
  go_wp2_with fail
  refine (q3 _).mono ?_
  rintro e w4 ⟨rfl, hb4⟩
  have HB4 := Lib.hid (HB3.out.trans (hb4.mono HB3.out.size))
  clear hb4
  by_cases hmn : m = n
  · subst hmn
    go_wp2_with fail
    go_loopw [8] (fun i wr => ∃ j : Nat, j ≤ m ∧ i = .int .i64 (j : Int) ∧ Hid (PS.take j = l.take j) ∧ Hid (Below w2.heap.size w2 wr)) (fun i _ => m - (intOf i).toNat)
    case atStart => exact ⟨0, Nat.zero_le _, rfl, rfl, HB4.out⟩
    case round =>
      obtain ⟨j, hj, rfl, HTJ, HBr⟩ := hrel
      by_cases hjm : j < m
      · obtain ⟨p, hp⟩ : ∃ p, (PS.take (m + 1))[j]? = some p := ⟨_, List.getElem?_eq_getElem (by rw [HM.out]; exact hjm)⟩
        obtain ⟨q, hq⟩ : ∃ q, l[j]? = some q := ⟨_, List.getElem?_eq_getElem (by rw [HN.out]; exact hjm)⟩
        obtain ⟨c, ⟨B1, cb1, B2, cb2, rfl, hk1, hk2⟩, _, hcc⟩ := HRR.out.at_ hp
        obtain ⟨b2, off, rfl, g0⟩ := (HRW.out.below HBr.out).1.at_ _ _ (hcc 0 (by omega))
        have g1 := (HRW.out.below HBr.out).1.cell _ _ (hcc 1 (by omega))
        have at_ := flat_at (f := prCells) (s := 2) (fun _ => rfl) l j q hq
        obtain ⟨b3, off3, rfl, x0⟩ := (HS2.out.below HBr.out).1.at_ _ _ (at_ 0 (by omega))
        have x1 := (HS2.out.below HBr.out).1.cell _ _ (at_ 1 (by omega))
        rw [← Nat.add_assoc] at g1 x1
        rw [Nat.add_zero] at g0 x0
        have q1 : (j : Int) < (m : Int) := by omega
        have hwj : IntKind.i64.wrap ((j : Int) + 1) = (j : Int) + 1 := IntWalk.i64_in _ (by omega)
        have cv1 : ∀ k, (convert 25 9 (.slice B1 p.key.length cb1)).run Tryz.prog (wr.drewN k) = .ok (.string (tstr p.key)) (wr.drewN k) := fun k => run_tostr _ B1 p.key cb1 (BytesAt.keep hk1.1 (below_drewN HBr.out k))
        have cv2 : ∀ k, (convert 25 9 (.slice B2 p.val.length cb2)).run Tryz.prog (wr.drewN k) = .ok (.string (tstr p.val)) (wr.drewN k) := fun k => run_tostr _ B2 p.val cb2 (BytesAt.keep hk2.1 (below_drewN HBr.out k))
        have hqk := tstr_beq p.key q.key
        have hqv := tstr_beq p.val q.val
        have hpj : PS[j]? = some p := by rw [List.getElem?_take, if_pos (by omega)] at hp; exact hp
        have HNE : Hid (PS = l → p = q) := fun e => by rw [e, hq] at hpj; exact (Option.some.inj hpj).symm
        have HTK : Hid (p = q → PS.take (j + 1) = l.take (j + 1)) := fun e => by rw [List.take_add_one, List.take_add_one, hpj, hq, HTJ.out, e]
        obtain ⟨sk, hsk⟩ : ∃ x, tstr p.key = x := ⟨_, rfl⟩
        obtain ⟨sv, hsv⟩ : ∃ x, tstr p.val = x := ⟨_, rfl⟩
        obtain ⟨tk, htk⟩ : ∃ x, tstr q.key = x := ⟨_, rfl⟩
        obtain ⟨tv, htv⟩ : ∃ x, tstr q.val = x := ⟨_, rfl⟩
        have x0' : wr.cell? ⟨b3, off3 + j * 2, none⟩ = some (.string tk) := by rw [← htk]; exact x0
        have x1' : wr.cell? ⟨b3, off3 + j * 2 + 1, none⟩ = some (.string tv) := by rw [← htv]; exact x1
        have g0' : wr.cell? ⟨b2, off + j * 2, none⟩ = some (.slice B1 p.key.length cb1) := g0
        have g1' : wr.cell? ⟨b2, off + j * 2 + 1, none⟩ = some (.slice B2 p.val.length cb2) := g1
        rw [hsk] at cv1 hqk
        rw [hsv] at cv2 hqv
        rw [htk] at hqk
        rw [htv] at hqv
        have HPQ : Hid ((p.key == q.key) = true → (p.val == q.val) = true → p = q) := fun a b => by
          have a' : p.key = q.key := by simpa using a
          have b' : p.val = q.val := by simpa using b
          obtain ⟨pk, pv⟩ := p
          obtain ⟨qk, qv⟩ := q
          dsimp only at a' b'
          rw [a', b']
        have HQK : Hid (p = q → (p.key == q.key) = true ∧ (p.val == q.val) = true) := fun e => by rw [e]; simp
        obtain ⟨bk, hqk'⟩ : ∃ b, (p.key == q.key) = b := ⟨_, rfl⟩
        obtain ⟨bv, hqv'⟩ : ∃ b, (p.val == q.val) = b := ⟨_, rfl⟩
        rw [hqk'] at hqk HPQ HQK
        rw [hqv'] at hqv HPQ HQK
        obtain ⟨nk, hnk⟩ : ∃ n, p.key.length = n := ⟨_, rfl⟩
        obtain ⟨nv, hnv⟩ : ∃ n, p.val.length = n := ⟨_, rfl⟩
        rw [hnk] at g0' cv1
        rw [hnv] at g1' cv2
        clear hp hq hk1 hk2 hcc g0 g1 at_ x0 x1 hpj hsk hsv htk htv hqk' hqv' hnk hnv
        cases bk
        · go_wp2_with fail
          go_quiet (fail)
          go_wp2_with fail
          go_ret
          exact ⟨false, rfl, ⟨(fun e => by cases e), (fun e => by have h9 := HQK.out (HNE.out e); simp at h9)⟩, HSM.out _ (below_drewN HBr.out _)⟩
        · cases bv
          · go_wp2_with fail
            go_quiet (fail)
            go_wp2_with fail
            go_ret
            exact ⟨false, rfl, ⟨(fun e => by cases e), (fun e => by have h9 := HQK.out (HNE.out e); simp at h9)⟩, HSM.out _ (below_drewN HBr.out _)⟩
          · go_wp2_with fail
            go_quiet (fail)
            go_wp2_with fail
            exact ⟨⟨j + 1, by omega, by go_num, HTK.out (by have h9 := HPQ.out; simpa using h9), below_drewN HBr.out _⟩, by simp [intOf]; omega⟩
      · obtain rfl : j = m := by omega
        have q1 : decide ((j : Int) < (j : Int)) = false := decide_eq_false (by omega)
        go_wp2_with fail
        go_ret
        have h1 := HTJ.out
        have h2 := HTL.out
        have h3 := HN.out
        rw [List.take_of_length_le (by omega), List.take_of_length_le (by omega)] at h1
        exact ⟨true, rfl, ⟨fun _ => h1, fun _ => rfl⟩, HSM.out _ HBr.out⟩
  · have q5 : ((m : Int) != (n : Int)) = true := by simp; omega
    have q6 : ¬ ((m : Int) = (n : Int)) := by omega
    have q7 : decide ((m : Int) = (n : Int)) = false := decide_eq_false q6
    go_wp2_with fail
    go_ret
    have h2 := HTL.out
    have h3 := HN.out
    exact ⟨false, rfl, ⟨(fun e => by cases e), (fun e => by rw [e] at h2; omega)⟩, HSM.out _ HB4.out⟩
end Go.Proofs.YtljmklohgpaopaaGreatDoor

namespace Go.Proofs.YtljmklohgpaopaaGreatDoor
namespace Pl

def Sec.look (s : Sec) : Option (List UInt8) := if s.broken then none else some s.now
/-- What may be read behind a crash. -/
def Sec.may (s : Sec) (o : Option (List UInt8)) : Prop :=
  if s.fresh then o = some s.now ∨ o = none ∨ (s.was = false ∧ o = some s.safe) else o = s.look
/-- What may be read of a sector behind a crash. -/
def May (l : List Sec) (i : Nat) (o : Option (List UInt8)) : Prop := ∃ s, l[i]? = some s ∧ s.may o
theorem may_still {l : List Sec} (hf : ∀ s ∈ l, s.fresh = false) (life : Int) {j : Nat} {o : Option (List UInt8)} (ho : May l j o) : o = (Dk.mk l life).look j := by
  obtain ⟨s, hs, hm⟩ := ho
  unfold Sec.may at hm
  rw [if_neg (by rw [hf s (List.mem_of_getElem? hs)]; decide)] at hm
  unfold Dk.look
  rw [hs]
  exact hm
theorem loses_length (l : List Sec) : ∀ raw, (loses l raw).length = l.length := by
  induction l with
  | nil => intro raw; rfl
  | cons s l ih => intro raw; unfold loses; split <;> simp [ih]
end Pl
end Go.Proofs.YtljmklohgpaopaaGreatDoor

namespace Go.Proofs.YtljmklohgpaopaaGreatDoor
namespace Pl

theorem life_dead {d : Dk} (h : ¬ d.alive = true) (c : Ch) : (d.change c).life = 0 ∧ (d.change c).secs = d.secs := by
  unfold Dk.change
  rw [if_neg h]
  unfold Dk.alive at h
  simp at h
  refine ⟨?_, rfl⟩
  show (if 0 < d.life then d.life - 1 else d.life) = 0
  split <;> omega
theorem change_secs {d : Dk} (h : d.alive = true) (c : Ch) : (d.change c).secs = c.on d.secs := by
  unfold Dk.change
  rw [if_pos h]

end Pl
end Go.Proofs.YtljmklohgpaopaaGreatDoor

namespace Go.Proofs.YtljmklohgpaopaaGreatDoor
open Go.RowKit
set_option linter.unusedSectionVars false
variable [Inhabited LoT]

theorem slots_saved {d d1 d2 : Pl.Dk} {first n seq h : Nat} {js : List Nat} {l : List Pl.Ch} {s : Pl.ST h} {t : Pl.Tr h} (hl : FreeW first js l) (h1 : d.run (l ++ [.sy]) = (d1, true)) (hO : Pl.OnD (fun j => d1.look (first + j)) n h s t)
    (h2 : d1.run [.wr (first + (seq + 1) % 2) (slotT (seq + 1) (Pl.top h s) (Pl.dcount n (Pl.secsOf h s))), .sy] = (d2, true)) (hold : ∀ x, d.look (first + seq % 2) = some x → x.headD 0 = 84 → Pl.num ((x.drop 1).take 8) < seq + 1) (hq : seq + 1 < 18446744073709551616) (hf : first + n ≤ d.secs.length) (hn : 2 ≤ n) :
    SlotOk d2 first n (seq + 1) (Pl.top h s) (Pl.dcount n (Pl.secsOf h s)) ∧ Pl.OnD (fun j => d2.look (first + j)) n h s t ∧ d2.secs.length = d.secs.length := by
  have hlen : d1.secs.length = d.secs.length := by have := run_len (l ++ [.sy]) d; rw [h1] at this; exact this
  obtain ⟨tx, htx⟩ : ∃ x, slotT (seq + 1) (Pl.top h s) (Pl.dcount n (Pl.secsOf h s)) = x := ⟨_, rfl⟩
  rw [htx, Pl.Dk.run_cons] at h2
  by_cases ha : d1.alive = true
  · rw [if_pos ha, Pl.Dk.run_cons] at h2
    by_cases hb : (d1.change (.wr (first + (seq + 1) % 2) tx)).alive = true
    · rw [if_pos hb, Pl.Dk.run_nil] at h2
      injection h2 with h2 _
      have lk : ∀ j, j ≠ (seq + 1) % 2 → d2.look (first + j) = d1.look (first + j) := fun j hj => by
        rw [← h2, look_sync, look_off _ _ _ _ (by omega)]
      have hbd := hO.bounds
      refine ⟨⟨?_, fun x hx => ?_, by omega, hq, hbd.1, hbd.2, Pl.dcount_pos (Pl.top_mem h s) hbd.2, Pl.dcount_le _ _⟩, hO.congr _ _ _ (fun j hj => lk j (by have := (hO.all _ _ _ j hj).1; omega)), by rw [← h2, tchange_length, tchange_length, hlen]⟩
      · rw [← h2, look_sync, tchange_look ha (by omega), if_pos rfl, ← htx]
        rfl
      · have e : (seq + 1 + 1) % 2 = seq % 2 := by omega
        rw [e, lk _ (by omega), FreeW.look hl.sy h1 (seq % 2) (.inl (by omega))] at hx
        exact hold x hx
    · rw [if_neg hb] at h2
      injection h2 with _ h2
      cases h2
  · rw [if_neg ha] at h2
    injection h2 with _ h2
    cases h2
/-- The tree that was opened. -/
def opEnv (gT g first n : Nat) (vD : Value) (d : Pl.Dk) (seq p r h : Nat) (s : Pl.ST h) : TEnv := ⟨gT, ⟨g, first, n, r, some r, seq, p, false⟩, vD, d, Pl.secsOf h s⟩
theorem OpdPost.env {gT g first n : Nat} {vD : Value} {d : Pl.Dk} {rd : Int} {seq a p r : Nat} {w w' : World} (hp : OpdPost gT g first n vD d rd seq a p r w w') {h : Nat} {s : Pl.ST h} {t : Pl.Tr h} (hO : Pl.OnD (fun j => d.look (first + j)) n h s t) (ha : Pl.top h s = a) (hp2 : p = Pl.dcount n (Pl.secsOf h s)) (hok : Pl.RootOk ⟨h, t⟩) (hh : h ≤ 62) (hf : first + n ≤ d.secs.length) (hlo : LO ≤ w.heap.size) (hld : ∀ k, dF g vD k → LO ≤ k) :
    ∃ rd', RdK 2 rd rd' ∧ TW (opEnv gT g first n vD d seq p r h s) w' rd' (opGh r h t) ∧ opGh r h t r = some ⟨h, t⟩ ∧ FrN w' h t r 0 ∧ SavedAt (opEnv gT g first n vD d seq p r h s) w' (opGh r h t) (Pl.secsOf h s) := by
  obtain ⟨h1, h2, h3, h4, ⟨rd', h5, h6⟩, h7⟩ := hp
  rw [← ha] at h4
  have hG : opGh r h t r = some ⟨h, t⟩ := if_pos rfl
  refine ⟨rd', h6, ⟨h3, h5, fun k h' t' hk => ?_, hf, ⟨fun k x hk => ?_, hld, Nat.le_trans hlo h1⟩⟩, hG, ?_, .inr ⟨r, h, t, s, .nilIface, rfl, hG, hok, hh, h4, hO, rfl, hp2⟩⟩
  · unfold opGh at hk
    by_cases e : k = r
    · rw [if_pos e] at hk
      injection hk with hk
      injection hk with e1 e2
      subst e1
      obtain rfl := eq_of_heq e2
      subst e
      exact .inr ⟨s, .nilIface, h4, hO, fun j hj => hj, .inl rfl⟩
    · rw [if_neg e] at hk; cases hk
  · unfold opGh at hk
    by_cases e : k = r
    · rw [e]; exact Nat.le_trans hlo h2
    · rw [if_neg e] at hk; cases hk
  · have hb := hO.bounds
    cases h with
    | zero => exact ⟨_, _, h4, .inl ⟨by omega, rfl⟩⟩
    | succ h => exact ⟨_, _, h4, .inl ⟨by omega, rfl⟩⟩
theorem EvAt.tft {gT : Nat} {m : Tm} {w w' : World} (h : EvAt w) (hT : TmAt w gT m) (hf : TFt gT w w') : EvAt w' := by
  have hne : 0 ≠ gT := fun e => by
    subst e
    have h1 : some (Value.pointer (some ⟨m.g, 0, none⟩)) = some (.string (tstr [])) := Eq.trans (Eq.symm (hT.cell 0)) h.1
    cases h1
  exact ⟨hf.ev _ _ hne rfl h.1, hf.ev _ _ hne rfl h.2.1, hf.ev _ _ hne rfl h.2.2⟩
theorem SavedAt.refs {E : TEnv} {w w' : World} {G G' : Gh} {js : List Nat} (h : SavedAt E w G js) (hG : Ext G G') (hr : ∀ r a v, RefAt w r a v → ∃ v', RefAt w' r a v' ∧ (v' = v ∨ v = .nilIface)) (r : Nat) : SavedAt (E.to r) w' G' js := by
  rcases h with h | ⟨rs, hs, ts, ss, v, h1, h2, h3, h4, h5, h6, h7, h8⟩
  · exact .inl h
  · obtain ⟨v', h9, _⟩ := hr _ _ _ h5
    exact .inr ⟨rs, hs, ts, ss, v', h1, hG _ _ h2, h3, h4, h9, h6, h7, h8⟩
end Go.Proofs.YtljmklohgpaopaaGreatDoor
