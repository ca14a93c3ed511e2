/- A tree: Put. A tree: Get. A tree: Get. A tree: its disk is written. Plain: how many sectors are used, how many are free. A tree: the sectors that are used; the next that is free. What is left alone: blocks of other types; a map's block too. -/
import Derived.Test.YtljmklohgpaopaaGreatDoorMgPlanted18
import Derived.Test.YtljmklohgpaopaaGreatDoorMgPlanted5
import Derived.Test.YtljmklohgpaopaaGreatDoorMgPlanted6
import Derived.Maps.OwnOps
import Derived.Maps.OwnSet
import Derived.Maps.Views
set_option linter.unusedVariables false
set_option linter.unusedSimpArgs false

namespace Go.Proofs.YtljmklohgpaopaaGreatDoor
open Go.RowKit
set_option linter.unusedSectionVars false
variable [Inhabited LoT]

theorem two_str (w : World) (x y : Value) : Blk ((w.alloc (.cells #[x] 9)).alloc (.cells #[y] 9)).drew w.heap.size 9 [x] ∧ Blk ((w.alloc (.cells #[x] 9)).alloc (.cells #[y] 9)).drew (w.heap.size + 1) 9 [y] ∧
    Below w.heap.size w ((w.alloc (.cells #[x] 9)).alloc (.cells #[y] 9)).drew := by
  have h1 : Blk (w.alloc (.cells #[x] 9)) w.heap.size 9 [x] := Blk.new w 9 _
  have h2 : Blk ((w.alloc (.cells #[x] 9)).alloc (.cells #[y] 9)) (w.alloc (.cells #[x] 9)).heap.size 9 [y] := Blk.new _ 9 _
  have hs : (w.alloc (.cells #[x] 9)).heap.size = w.heap.size + 1 := by simp
  rw [hs] at h2
  have hb : Below (w.alloc (.cells #[x] 9)).heap.size (w.alloc (.cells #[x] 9)) ((w.alloc (.cells #[x] 9)).alloc (.cells #[y] 9)).drew := ((Below.refl _ _).alloc (Nat.le_refl _) _).drew
  exact ⟨h1.below hb h1.lt, h2, ((Below.refl w.heap.size w).alloc (Nat.le_refl _) _).trans (hb.mono (by rw [hs]; omega))⟩
theorem enters_put1 (caps : Array Value) (W : World) : (callFunc 90 caps).run Tryz.prog W = .ok (.enter 90 caps) W := by simp [go_sem]
set_option maxRecDepth 100000 in
set_option maxHeartbeats 4000000 in
theorem tput_any (E : TEnv) (A B : Option Addr) (ca cb : Nat) (key v : Pl.Key) (hkf : Pl.KeyFit key) (hvf : v.length ≤ 100) (hn : E.m.n ≤ 4096) (hpg : E.m.pages ≤ 4096) (hbad : E.m.bad = false) (h : Nat) (t : Pl.Tr h) (w : World) (rd : Int) (G : Gh) (hw : TW E w rd G) (hG : G E.m.root = some ⟨h, t⟩) (hok : Pl.RootOk ⟨h, t⟩) (hh : h ≤ 62)
    (hpgs : Pl.pgs (Pl.newRoot (Pl.putL key v) key ⟨h, t⟩).1 (Pl.newRoot (Pl.putL key v) key ⟨h, t⟩).2 ≤ 50000) (hev : EvAt w) (hA : BytesAt w A key) (hB : BytesAt w B v) :
    Calls Tryz.prog 46 #[.pointer (some ⟨E.gT, 0, none⟩), .slice A key.length ca, .slice B v.length cb] w fun e w' => ∃ k, e = .returned (errK k) ∧ ChQ E (2 * (h + 1)) rd G (Pl.newRoot (Pl.putL key v) key ⟨h, t⟩) False true w k w' := by
  obtain ⟨gt, hgt⟩ : ∃ g, w.heap.size = g := ⟨_, rfl⟩
  obtain ⟨w1, hw1⟩ : ∃ x, w.alloc (.cells #[.pointer (some ⟨E.gT, 0, none⟩)] 45) = x := ⟨_, rfl⟩
  have hb1 : Below w.heap.size w w1 := by rw [← hw1]; exact (Below.refl _ _).alloc (Nat.le_refl _) _
  have BT : Hid (Blk w1 gt 45 [.pointer (some ⟨E.gT, 0, none⟩)]) := by rw [Hid, ← hw1, ← hgt]; exact Blk.new w 45 _
  have HB1 := Lib.hid hb1
  obtain ⟨x9, hx9⟩ : ∃ x, Pl.newRoot (Pl.putL key v) key ⟨h, t⟩ = x := ⟨_, rfl⟩
  have HK : Hid (∀ W, Below w.heap.size w W → BytesAt W A key) := fun W hW => BytesAt.keep hA hW
  have HV : Hid (∀ W, Below w.heap.size w W → BytesAt W B v) := fun W hW => BytesAt.keep hB hW
  have HP1 : Hid (∀ (W : World) (gk gv : Nat), Below w.heap.size w W → Blk W gt 45 [.pointer (some ⟨E.gT, 0, none⟩)] → Blk W gk 9 [.string (tstr key)] → Blk W gv 9 [.string (tstr v)] →
      Calls Tryz.prog 89 #[.pointer (some ⟨E.gT, 0, none⟩), .func (.func 90) #[] #[.pointer (some ⟨gt, 0, none⟩), .pointer (some ⟨gk, 0, none⟩), .pointer (some ⟨gv, 0, none⟩)]] W fun e w' => ∃ k, e = .returned (errK k) ∧ ChQ E (2 * (h + 1)) rd G x9 False true w k w') := by
    intro W gk gv hW h1 h2 h3
    have hwW := hw.below hW
    obtain ⟨W1, hW1⟩ : ∃ x, W.alloc (.cells #[.nilIface] 83) = x := ⟨_, rfl⟩
    have hbe : Below W.heap.size W W1 := by rw [← hW1]; exact (Below.refl _ _).alloc (Nat.le_refl _) _
    have he : Blk W1 W.heap.size 83 [.nilIface] := by rw [← hW1]; exact Blk.new W 83 _
    have hp := put1_any E gt gk gv key v hkf hvf hn hpg h t W1 rd G (hwW.below hbe) hG hok hh hpgs (hev.tfr ((TFr.of_below hW).below hbe)) (h1.below hbe h1.lt) (h2.below hbe h2.lt) (h3.below hbe h3.lt)
    rw [hx9] at hp
    have hd := tdo_any E.gT E.m 90 #[.pointer (some ⟨gt, 0, none⟩), .pointer (some ⟨gk, 0, none⟩), .pointer (some ⟨gv, 0, none⟩)] W hwW.tree hbad (fun k w' => Blk w' W.heap.size 83 [.nilIface] ∧ ChQ E (2 * (h + 1)) rd G x9 False false W1 k w') (enters_put1 _)
      (fun k w' hq => by
        obtain ⟨m, hm, ht⟩ := hq.2.tree hbad
        obtain ⟨m0, m1, m2, m3, m4, m5, m6, m7⟩ := m
        dsimp only at hm
        subst hm
        exact ⟨_, _, _, _, _, _, _, ht⟩)
      (by
        rw [hW1]
        exact hp.mono fun e w' hc => by
          obtain ⟨k, hk, hq⟩ := hc.q hbad
          have hbk := hq.1.blk he (by decide)
          exact ⟨hbk, k, hk, hbk, hq⟩)
    refine hd.mono ?_
    rintro e w'' ⟨k, w', ⟨hbk, hq⟩, he', ho, hx⟩
    rw [← hW1] at hq
    have hfin := ChQ.done hwW.tree hwW.low.t hbad hbk hq ho hx
    exact ⟨k, he', ((TFr.of_below hW).tft.trans hfin.1), hfin.2⟩
  have HKF := Lib.hid hkf
  have HVF := Lib.hid hvf
  have hmf : ∀ (fn : Fn) (first cap : Array Value) (w : World), (Instr.makeFunc fn first cap).run Tryz.prog w = .ok (.func fn first cap) w := fun _ _ _ _ => rfl
  have ck : ∀ W, Below w.heap.size w W → (convert 25 9 (.slice A key.length ca)).run Tryz.prog W = .ok (.string (tstr key)) W := fun W hW => run_tostr W A key ca (HK.out W hW)
  have cv : ∀ W, Below w.heap.size w W → (convert 25 9 (.slice B v.length cb)).run Tryz.prog W = .ok (.string (tstr v)) W := fun W hW => run_tostr W B v cb (HV.out W hW)
  have CK := Lib.hid ck
  have CV := Lib.hid cv
  obtain ⟨nk, hnk⟩ : ∃ x, key.length = x := ⟨_, rfl⟩
  obtain ⟨nv, hnv⟩ : ∃ x, v.length = x := ⟨_, rfl⟩
  rw [hx9]
  rw [hnk] at CK ⊢
  rw [hnv] at CV ⊢
  clear hx9 hw hG hok hpgs hev hA hB hkf hvf hb1 ck cv hnk hnv HK HV
  go_enter Tryz.func46, Tryz.ntmps46
  go_upto_region 1 with fail
  go_cut [7, 8] from 9 (fun s7 s8 wx => ∃ gk gv, s7 = .pointer (some ⟨gk, 0, none⟩) ∧ s8 = .pointer (some ⟨gv, 0, none⟩) ∧ Hid (Blk wx gk 9 [.string (tstr key)]) ∧ Hid (Blk wx gv 9 [.string (tstr v)]) ∧ Hid (Below w1.heap.size w1 wx))
  case first =>
    have HBA : Hid (∀ W, Below w1.heap.size w1 W → Below w.heap.size w W) := fun W hW => HB1.out.trans (hW.mono HB1.out.size)
    have f1 := CK.out (w1.drew) (HBA.out _ (by first | exact (Below.refl w1.heap.size w1).drew | exact ((Below.refl w1.heap.size w1).alloc (Nat.le_refl _) _).drew | exact (((Below.refl w1.heap.size w1).alloc (Nat.le_refl _) _).alloc (by simp) _).drew))
    have f2 := CK.out ((w1.alloc (.cells #[.string ⟨#[]⟩] 9)).drew) (HBA.out _ (by first | exact (Below.refl w1.heap.size w1).drew | exact ((Below.refl w1.heap.size w1).alloc (Nat.le_refl _) _).drew | exact (((Below.refl w1.heap.size w1).alloc (Nat.le_refl _) _).alloc (by simp) _).drew))
    have f3 := CK.out ((w1.alloc (.cells #[.string (tstr v)] 9)).drew) (HBA.out _ (by first | exact (Below.refl w1.heap.size w1).drew | exact ((Below.refl w1.heap.size w1).alloc (Nat.le_refl _) _).drew | exact (((Below.refl w1.heap.size w1).alloc (Nat.le_refl _) _).alloc (by simp) _).drew))
    have f4 := CK.out (((w1.alloc (.cells #[.string ⟨#[]⟩] 9)).alloc (.cells #[.string ⟨#[]⟩] 9)).drew) (HBA.out _ (by first | exact (Below.refl w1.heap.size w1).drew | exact ((Below.refl w1.heap.size w1).alloc (Nat.le_refl _) _).drew | exact (((Below.refl w1.heap.size w1).alloc (Nat.le_refl _) _).alloc (by simp) _).drew))
    have f5 := CK.out (((w1.alloc (.cells #[.string ⟨#[]⟩] 9)).alloc (.cells #[.string (tstr v)] 9)).drew) (HBA.out _ (by first | exact (Below.refl w1.heap.size w1).drew | exact ((Below.refl w1.heap.size w1).alloc (Nat.le_refl _) _).drew | exact (((Below.refl w1.heap.size w1).alloc (Nat.le_refl _) _).alloc (by simp) _).drew))
    have f6 := CK.out (((w1.alloc (.cells #[.string (tstr v)] 9)).alloc (.cells #[.string ⟨#[]⟩] 9)).drew) (HBA.out _ (by first | exact (Below.refl w1.heap.size w1).drew | exact ((Below.refl w1.heap.size w1).alloc (Nat.le_refl _) _).drew | exact (((Below.refl w1.heap.size w1).alloc (Nat.le_refl _) _).alloc (by simp) _).drew))
    have f7 := CK.out (((w1.alloc (.cells #[.string (tstr v)] 9)).alloc (.cells #[.string (tstr v)] 9)).drew) (HBA.out _ (by first | exact (Below.refl w1.heap.size w1).drew | exact ((Below.refl w1.heap.size w1).alloc (Nat.le_refl _) _).drew | exact (((Below.refl w1.heap.size w1).alloc (Nat.le_refl _) _).alloc (by simp) _).drew))
    have f8 := CV.out (w1.drew) (HBA.out _ (by first | exact (Below.refl w1.heap.size w1).drew | exact ((Below.refl w1.heap.size w1).alloc (Nat.le_refl _) _).drew | exact (((Below.refl w1.heap.size w1).alloc (Nat.le_refl _) _).alloc (by simp) _).drew))
    have f9 := CV.out ((w1.alloc (.cells #[.string ⟨#[]⟩] 9)).drew) (HBA.out _ (by first | exact (Below.refl w1.heap.size w1).drew | exact ((Below.refl w1.heap.size w1).alloc (Nat.le_refl _) _).drew | exact (((Below.refl w1.heap.size w1).alloc (Nat.le_refl _) _).alloc (by simp) _).drew))
    have f10 := CV.out ((w1.alloc (.cells #[.string (tstr key)] 9)).drew) (HBA.out _ (by first | exact (Below.refl w1.heap.size w1).drew | exact ((Below.refl w1.heap.size w1).alloc (Nat.le_refl _) _).drew | exact (((Below.refl w1.heap.size w1).alloc (Nat.le_refl _) _).alloc (by simp) _).drew))
    have f11 := CV.out (((w1.alloc (.cells #[.string ⟨#[]⟩] 9)).alloc (.cells #[.string ⟨#[]⟩] 9)).drew) (HBA.out _ (by first | exact (Below.refl w1.heap.size w1).drew | exact ((Below.refl w1.heap.size w1).alloc (Nat.le_refl _) _).drew | exact (((Below.refl w1.heap.size w1).alloc (Nat.le_refl _) _).alloc (by simp) _).drew))
    have f12 := CV.out (((w1.alloc (.cells #[.string ⟨#[]⟩] 9)).alloc (.cells #[.string (tstr key)] 9)).drew) (HBA.out _ (by first | exact (Below.refl w1.heap.size w1).drew | exact ((Below.refl w1.heap.size w1).alloc (Nat.le_refl _) _).drew | exact (((Below.refl w1.heap.size w1).alloc (Nat.le_refl _) _).alloc (by simp) _).drew))
    have f13 := CV.out (((w1.alloc (.cells #[.string (tstr key)] 9)).alloc (.cells #[.string ⟨#[]⟩] 9)).drew) (HBA.out _ (by first | exact (Below.refl w1.heap.size w1).drew | exact ((Below.refl w1.heap.size w1).alloc (Nat.le_refl _) _).drew | exact (((Below.refl w1.heap.size w1).alloc (Nat.le_refl _) _).alloc (by simp) _).drew))
    have f14 := CV.out (((w1.alloc (.cells #[.string (tstr key)] 9)).alloc (.cells #[.string (tstr key)] 9)).drew) (HBA.out _ (by first | exact (Below.refl w1.heap.size w1).drew | exact ((Below.refl w1.heap.size w1).alloc (Nat.le_refl _) _).drew | exact (((Below.refl w1.heap.size w1).alloc (Nat.le_refl _) _).alloc (by simp) _).drew))
    go_region
    all_goals
      go_wp2_with fail
      go_meet
      case rel =>
        first
        | exact ⟨_, _, rfl, rfl, (two_str w1 (.string (tstr key)) (.string (tstr v))).1, (two_str w1 (.string (tstr key)) (.string (tstr v))).2.1, (two_str w1 (.string (tstr key)) (.string (tstr v))).2.2⟩
        | exact ⟨_, _, rfl, rfl, (two_str w1 (.string (tstr v)) (.string (tstr key))).2.1, (two_str w1 (.string (tstr v)) (.string (tstr key))).1, (two_str w1 (.string (tstr v)) (.string (tstr key))).2.2⟩
  case rest =>
    obtain ⟨gk, gv, rfl, rfl, hbk, hbv, hbw⟩ := hcut
    obtain ⟨wx, hwx, BK, BV, HBW⟩ : ∃ x, x = wc ∧ Hid (Blk x gk 9 [.string (tstr key)]) ∧ Hid (Blk x gv 9 [.string (tstr v)]) ∧ Hid (Below w1.heap.size w1 x) := ⟨wc, rfl, hbk, hbv, hbw⟩
    subst hwx
    clear hbk hbv hbw
    have c1 : wx.cell? ⟨gk, 0, none⟩ = some (.string (tstr key)) := BK.out.cell 0
    have c2 : wx.cell? ⟨gv, 0, none⟩ = some (.string (tstr v)) := BV.out.cell 0
    have c3 : wx.cell? ⟨gt, 0, none⟩ = some (.pointer (some ⟨E.gT, 0, none⟩)) := (BT.out.below HBW.out BT.out.lt).cell 0
    have HBX : Hid (Below w.heap.size w wx) := HB1.out.trans (HBW.out.mono HB1.out.size)
    have HDO := Lib.hid (HP1.out wx gk gv HBX.out (BT.out.below HBW.out BT.out.lt) BK.out BV.out)
    go_wp2_with fail
    refine (treeKey_any key _ HKF.out).mono ?_
    rintro e w' ⟨rfl, rfl⟩
    go_wp2_with fail
    refine (treeVal_any v _ HVF.out).mono ?_
    rintro e w' ⟨rfl, rfl⟩
    go_wp2_with fail
    refine HDO.out.mono ?_
    rintro e w' ⟨k, rfl, hq⟩
    have HQ := Lib.hid hq
    clear hq
    go_wp2_with fail
    go_ret
    exact ⟨k, rfl, HQ.out⟩
end Go.Proofs.YtljmklohgpaopaaGreatDoor

namespace Go.Proofs.YtljmklohgpaopaaGreatDoor
open Go.RowKit
set_option linter.unusedSectionVars false
variable [Inhabited LoT]

end Go.Proofs.YtljmklohgpaopaaGreatDoor

namespace Go.Proofs.YtljmklohgpaopaaGreatDoor
open Go.RowKit
set_option linter.unusedSectionVars false
variable [Inhabited LoT]

theorem byt_kinds {F : Nat → Prop} {w w' : World} {A : Option Addr} {l : List UInt8} {ts : List TypeId} (h : BytesAt w A l) (ht : ∀ q, A = some q → Typ w q.block 5) (ho : Only F w w') (hk : Kinds F w ts) (h1 : 5 ∉ ts) : BytesAt w' A l := by
  rcases h with h | ⟨b, off, rfl, h⟩
  · exact .inl h
  · refine .inr ⟨b, off, rfl, fun i hi => ho.cell (h i hi) (fun hf => ?_)⟩
    obtain ⟨t, h2, h3⟩ := hk _ hf
    exact h1 ((ht _ rfl).uniq h3 ▸ h2)
end Go.Proofs.YtljmklohgpaopaaGreatDoor

namespace Go.Proofs.YtljmklohgpaopaaGreatDoor
open Go.RowKit
set_option linter.unusedSectionVars false
variable [Inhabited LoT]

theorem EvAt.far {w : World} {g : Nat} {v : Value} {d : Pl.Dk} {rd : Int} (h : EvAt w) (hd : DiskAt w g v d rd) (h0 : 0 < d.secs.length) : v.ownBlock ≠ some 0 := by
  intro e
  obtain ⟨s, hs⟩ : ∃ s, d.secs[0]? = some s := ⟨_, List.getElem?_eq_getElem h0⟩
  have h1 := flat_at (f := secCells) (s := 5) (fun _ => rfl) d.secs 0 s hs 0 (by omega)
  have h2 := hd.own.cells e 0 (.string (tstr s.now)) (by simpa [secsCells, secCells] using h1)
  have h3 := h.1
  rw [addr_add] at h2
  have h4 : some (Value.string (tstr s.now)) = some (Value.string (tstr [])) := h2.symm.trans h3
  injection h4 with h4
  injection h4 with h4
  have h5 := congrArg ByteArray.size h4
  rw [tstr_size, tstr_size, (hd.sized s (List.mem_of_getElem? hs)).1] at h5
  simp at h5

set_option maxRecDepth 100000 in
set_option maxHeartbeats 4000000 in
theorem twriteB (gT : Nat) (m : Tm) (rest : List Value) (vD : Value) (d : Pl.Dk) (rd : Int) (i : Nat) (t : List UInt8) (w : World) (hT : Blk w gT 158 (.pointer (some ⟨m.g, 0, none⟩) :: .int .i64 (m.first : Nat) :: rest)) (h : DiskAt w m.g vD d rd) (hi : m.first + i < d.secs.length) (ht : t.length ≤ 256) :
    Calls Tryz.prog 79 #[.pointer (some ⟨gT, 0, none⟩), .int .i64 (i : Nat), .string (tstr t)] w fun e w' => TEnds d.alive 3 e ∧ DiskAt w' m.g vD (d.change (.wr (m.first + i) t)) rd ∧ Only (dF m.g vD) w w' := by
  have hmost := h.most
  have hk := h.kinds
  obtain ⟨g, first, n, root, saved, seq, pages, bad⟩ := m
  dsimp only at h hi hT hk
  have c0 : w.cell? ⟨gT, 0, none⟩ = some (.pointer (some ⟨g, 0, none⟩)) := hT.cell 0
  have c1 : w.cell? ⟨gT, 1, none⟩ = some (.int .i64 (first : Nat)) := hT.cell 1
  have H := Lib.hid (fun W hW => dwrite_any g vD d rd (first + i) t W hW hi ht)
  have HD := Lib.hid h
  obtain ⟨x, hx⟩ : ∃ x, first + i = x := ⟨_, rfl⟩
  have hxi : (first : Int) + (i : Int) = (x : Int) := by omega
  have HX := Lib.hid hx
  have hwx : IntKind.i64.wrap (x : Int) = x := IntWalk.i64_in _ (by omega)
  rw [hx] at hi H
  have HT := Lib.hid hT
  have HNF : Hid (¬ dF g vD gT) := fun hf => by
    obtain ⟨t', k1, k2⟩ := hk gT hf
    obtain rfl := k2.uniq hT.typ
    exact absurd k1 (by decide)
  obtain ⟨z, hz⟩ : ∃ z, tstr t = z := ⟨_, rfl⟩
  rw [hz] at H ⊢
  clear h hT hx hk hz
  have hx2 : (x : Int) ≤ 4096 := by omega
  have S0 := Lib.hid (And.intro c0 c1)
  go_enter Tryz.func79, Tryz.ntmps79
  go_wp2_with fail
  go_region_held3 (fun W : World => W.cell? ⟨gT, 0, none⟩ = some (.pointer (some ⟨g, 0, none⟩)) ∧ W.cell? ⟨gT, 1, none⟩ = some (.int .i64 (first : Nat))) (first | exact S0.out | exact S1.out) (first
    | (go_at_call 125
       refine (H.out _ (HD.out.only ((Only.refl (fun _ => False) w).drew) (fun _ _ => id))).mono ?_
       rintro e w1 ⟨rfl, h1, h3'⟩
       have h3 : Only (dF g vD) w w1 := h3'.undrew
       clear h3'
       have H1 := Lib.hid h1
       have H3 := Lib.hid h3
       have BT := Lib.hid (h3.blk HT.out HNF.out)
       have S1 := Lib.hid (And.intro (BT.out.cell 0) (BT.out.cell 1))
       clear h1 h3)
    | fail)
  cases hal : d.alive
  all_goals
    have HAL := Lib.hid hal
    clear hal
  · go_wp2_with fail
    refine (tfail_any 3 _).mono ?_
    rintro e w' ⟨rfl, rfl⟩
    unfold tdied
    go_wp2_with fail
    exact ⟨rfl, by rw [HAL.out]; exact TEnds.no 3, by rw [HX.out]; exact H1.out, H3.out⟩
  · go_wp2_with fail
    go_end0
    exact ⟨by rw [HAL.out]; exact TEnds.good 3, by rw [HX.out]; exact H1.out, H3.out⟩
set_option maxRecDepth 100000 in
set_option maxHeartbeats 4000000 in
theorem tsyncB (gT : Nat) (m : Tm) (rest : List Value) (vD : Value) (d : Pl.Dk) (rd : Int) (w : World) (hT : Blk w gT 158 (.pointer (some ⟨m.g, 0, none⟩) :: rest)) (h : DiskAt w m.g vD d rd) :
    Calls Tryz.prog 80 #[.pointer (some ⟨gT, 0, none⟩)] w fun e w' => TEnds d.alive 3 e ∧ DiskAt w' m.g vD (d.change .sy) rd ∧ Only (dF m.g vD) w w' := by
  have hm : w.cell? ⟨gT, 0, none⟩ = some (.pointer (some ⟨m.g, 0, none⟩)) := hT.cell 0
  obtain ⟨g, hg⟩ : ∃ g, m.g = g := ⟨_, rfl⟩
  rw [hg] at hm h ⊢
  have H := Lib.hid (dsync_any g vD d rd w h)
  clear h hT hg
  go_enter Tryz.func80, Tryz.ntmps80
  go_wp2_with fail
  refine H.out.mono ?_
  rintro e w1 ⟨rfl, h1, h2⟩
  have H1 := Lib.hid h1
  have H2 := Lib.hid h2
  clear h1 h2 H
  cases hal : d.alive
  all_goals
    have HAL := Lib.hid hal
    clear hal
  · go_wp2_with fail
    refine (tfail_any 3 _).mono ?_
    rintro e w' ⟨rfl, rfl⟩
    unfold tdied
    go_wp2_with fail
    exact ⟨rfl, by rw [HAL.out]; exact TEnds.no 3, H1.out, H2.out⟩
  · go_wp2_with fail
    go_end0
    exact ⟨by rw [HAL.out]; exact TEnds.good 3, H1.out, H2.out⟩
theorem twrite_any (gT : Nat) (m : Tm) (vD : Value) (d : Pl.Dk) (rd : Int) (i : Nat) (t : List UInt8) (w : World) (hT : TmAt w gT m) (h : DiskAt w m.g vD d rd) (hi : m.first + i < d.secs.length) (ht : t.length ≤ 256) :
    Calls Tryz.prog 79 #[.pointer (some ⟨gT, 0, none⟩), .int .i64 (i : Nat), .string (tstr t)] w fun e w' => TEnds d.alive 3 e ∧ DiskAt w' m.g vD (d.change (.wr (m.first + i) t)) rd ∧ Only (dF m.g vD) w w' := twriteB gT m _ vD d rd i t w hT h hi ht
theorem tsync_any (gT : Nat) (m : Tm) (vD : Value) (d : Pl.Dk) (rd : Int) (w : World) (hT : TmAt w gT m) (h : DiskAt w m.g vD d rd) :
    Calls Tryz.prog 80 #[.pointer (some ⟨gT, 0, none⟩)] w fun e w' => TEnds d.alive 3 e ∧ DiskAt w' m.g vD (d.change .sy) rd ∧ Only (dF m.g vD) w w' := tsyncB gT m _ vD d rd w hT h
end Go.Proofs.YtljmklohgpaopaaGreatDoor

namespace Go.Proofs.Pl
def dcount (n : Nat) (js : List Nat) : Nat := (List.range n).countP (fun j => decide (j ∈ js))
def freeN (x n : Nat) (js : List Nat) : Nat := (List.range n).countP (fun j => decide (x ≤ j ∧ j ∉ js))
theorem dcount_succ (n : Nat) (js : List Nat) : dcount (n + 1) js = dcount n js + if n ∈ js then 1 else 0 := by
  unfold dcount
  rw [List.range_succ, List.countP_append, List.countP_singleton]
  simp
theorem freeN_succ (x n : Nat) (js : List Nat) : freeN x (n + 1) js = freeN x n js + if x ≤ n ∧ n ∉ js then 1 else 0 := by
  unfold freeN
  rw [List.range_succ, List.countP_append, List.countP_singleton]
  simp
theorem dcount_step (js : List Nat) (j : Nat) : ∀ n, dcount n (js ++ [j]) = dcount n js + if j < n ∧ j ∉ js then 1 else 0
  | 0 => by simp [dcount]
  | n + 1 => by
    rw [dcount_succ, dcount_succ, dcount_step js j n]
    by_cases h1 : n ∈ js
    · by_cases h2 : j ∈ js
      · simp [h1, h2]
      · have : j ≠ n := fun e => h2 (e ▸ h1)
        by_cases h3 : j < n
        · simp [h1, h2, h3, Nat.lt_succ_of_lt h3]
        · have : ¬ j < n + 1 := by omega
          simp [h1, h2, h3, this]
    · by_cases h2 : n = j
      · subst h2
        simp [h1]
      · have h4 : j < n + 1 ↔ j < n := by omega
        simp [h1, h2, h4]
theorem dcount_le (n : Nat) (js : List Nat) : dcount n js ≤ n := by
  have := List.countP_le_length (p := fun j => decide (j ∈ js)) (l := List.range n)
  rwa [List.length_range] at this
theorem dcount_pos {n j : Nat} {js : List Nat} (h : j ∈ js) (hn : j < n) : 0 < dcount n js :=
  List.countP_pos_iff.2 ⟨j, List.mem_range.2 hn, by simpa using h⟩
/-- All sectors but the first two are used or free. -/
theorem free_used {js : List Nat} (h : ∀ j ∈ js, 2 ≤ j) : ∀ m, freeN 2 m js + dcount m js + 2 ≥ m
  | 0 => by omega
  | m + 1 => by
    have ih := free_used h m
    rw [freeN_succ, dcount_succ]
    by_cases h1 : m ∈ js
    · simp only [h1, if_true]; omega
    · by_cases h2 : 2 ≤ m
      · simp only [h1, h2, not_false_eq_true, and_self, if_true, if_false]; omega
      · omega
theorem freeN_none {x n : Nat} {js : List Nat} (h : ∀ j, x ≤ j → j < n → j ∈ js) : freeN x n js = 0 := by
  unfold freeN
  rw [List.countP_eq_zero]
  intro j hj
  have := List.mem_range.1 hj
  simp only [decide_eq_true_eq, not_and, Classical.not_not]
  exact fun hx => h j hx this
/-- The next one that is free. -/
theorem freeN_next (n : Nat) (js : List Nat) : ∀ (k x : Nat), n - x = k → 0 < freeN x n js → ∃ y, x ≤ y ∧ y < n ∧ y ∉ js ∧ (∀ j, x ≤ j → j < y → j ∈ js) ∧ freeN x n js = freeN (y + 1) n js + 1
  | k, x, hk, h => by
    rcases Nat.lt_or_ge x n with hx | hx
    · by_cases h1 : x ∈ js
      · have he : freeN x n js = freeN (x + 1) n js := by
          unfold freeN
          apply List.countP_congr
          intro j _
          simp only [decide_eq_true_eq]
          constructor
          · rintro ⟨h2, h3⟩
            refine ⟨?_, h3⟩
            rcases Nat.lt_or_ge x j with h4 | h4
            · exact h4
            · exact absurd (Nat.le_antisymm h2 h4 ▸ h1) h3
          · rintro ⟨h2, h3⟩
            exact ⟨by omega, h3⟩
        cases k with
        | zero => omega
        | succ k =>
          obtain ⟨y, y1, y2, y3, y4, y5⟩ := freeN_next n js k (x + 1) (by omega) (by omega)
          refine ⟨y, by omega, y2, y3, fun j hj hjy => ?_, by omega⟩
          rcases Nat.lt_or_ge x j with h2 | h2
          · exact y4 j h2 hjy
          · obtain rfl : j = x := by omega
            exact h1
      · refine ⟨x, Nat.le_refl _, hx, h1, fun j h2 h3 => by omega, ?_⟩
        have key : ∀ m, freeN x m js = freeN (x + 1) m js + if x < m then 1 else 0 := by
          intro m
          induction m with
          | zero => simp [freeN]
          | succ m ih =>
            rw [freeN_succ, freeN_succ, ih]
            by_cases h2 : x = m
            · subst h2; simp [h1]
            · by_cases h3 : x < m
              · have h4 : x ≤ m := by omega
                have h5 : x + 1 ≤ m := by omega
                have h6 : x < m + 1 := by omega
                simp only [h3, h4, h5, h6, if_true, true_and]; omega
              · have h4 : ¬ x ≤ m := by omega
                have h5 : ¬ x + 1 ≤ m := by omega
                have h6 : ¬ x < m + 1 := by omega
                simp [h3, h4, h5, h6]
        rw [key n, if_pos hx]
    · rw [freeN_none (fun j h1 h2 => by omega)] at h
      omega
end Go.Proofs.Pl

namespace Go.Proofs.YtljmklohgpaopaaGreatDoor
open Go.RowKit Go.Maps Go.WideMaps
set_option linter.unusedSectionVars false
variable [Inhabited LoT]

theorem Tryz.keyInt : Keyed Tryz.prog 3 := int_keyed Tryz.underlying3
theorem Tryz.zeroInt' (w : World) : (zeroValue 3).run Tryz.prog w = .ok (.int .i64 0) w := by kernel_rfl
theorem wf_nat (j : Nat) (hj : j ≤ 100000) : (Lit.int .i64 (j : Int)).wf = true := by
  simp only [Lit.wf, IntKind.min, IntKind.max, IntKind.signed, IntKind.bits]
  first | (simp; omega) | (simp [IntKind.i64]; omega) | omega
/-- Block b is a map that has counted these sectors. -/
def UsedAt (w : World) (b k : Nat) (js : List Nat) : Prop :=
  ∃ D : DataW Unit, w.ownsMap Tryz.prog 3 (plainElem Tryz.prog 3) b k D ∧ (∀ j : Nat, D.atKey (.int .i64 (j : Int)) (.lit (.int .i64 0)) = .lit (.int .i64 ((js.count j : Nat) : Int))) ∧ (∀ n, (∀ j ∈ js, j < n) → Maps.size D = Pl.dcount n js) ∧ ∀ j : Nat, Maps.has D (.int .i64 (j : Int)) = decide (j ∈ js)
theorem UsedAt.heap {w w' : World} {b k : Nat} {js : List Nat} (h : UsedAt w b k js) (hh : w'.heap[b]? = w.heap[b]?) : UsedAt w' b k js := by
  obtain ⟨D, ⟨es, clock, h1, h2⟩, h3⟩ := h
  exact ⟨D, ⟨es, clock, hh.trans h1, h2⟩, h3⟩
theorem UsedAt.made (w : World) : UsedAt (w.alloc (.map #[] 0)) w.heap.size 0 [] := ⟨.map [], World.ownsMap_made _ _ _ _, fun s => rfl, fun n _ => by simp [Pl.dcount, Maps.size], fun _ => rfl⟩
theorem UsedAt.lt {w : World} {b k : Nat} {js : List Nat} (h : UsedAt w b k js) : b < w.heap.size := by
  obtain ⟨D, ⟨es, clock, h1, h2⟩, h3⟩ := h
  rcases Nat.lt_or_ge b w.heap.size with h | h
  · exact h
  · rw [Array.getElem?_eq_none h] at h1; cases h1
/-- A block of cells is no map. -/
theorem UsedAt.ne {w : World} {b k g : Nat} {js : List Nat} {t : TypeId} {cs : List Value} (h : UsedAt w b k js) (hb : Blk w g t cs) : b ≠ g := by
  rintro rfl
  obtain ⟨D, ⟨es, clock, h1, h2⟩, h3⟩ := h
  unfold Blk at hb
  rw [hb] at h1
  cases h1
theorem UsedAt.only {F : Nat → Prop} {w w' : World} {b k : Nat} {js : List Nat} {ts : List TypeId} (h : UsedAt w b k js) (ho : Only F w w') (hk : Kinds F w ts) : UsedAt w' b k js := by
  refine h.heap (ho.block b h.lt (fun hf => ?_))
  obtain ⟨t, _, cs, fz, hb⟩ := hk b hf
  obtain ⟨D, ⟨es, clock, h1, h2⟩, h3⟩ := h
  rw [hb] at h1
  cases h1
set_option maxRecDepth 100000 in
theorem UsedAt.look {w : World} {b k : Nat} {js : List Nat} (h : UsedAt w b k js) (j : Nat) (hj : j ≤ 100000) :
    (Instr.lookup 234 (.map (some b)) (.int .i64 (j : Int)) false).run Tryz.prog w = .ok (.int .i64 ((js.count j : Nat) : Int)) w := by
  obtain ⟨D, hown, h3, _⟩ := h
  have hkey : keyOf Tryz.prog 3 (.int .i64 (j : Int)) = some (.int .i64 (j : Int)) := keyOf_int_mk Tryz.underlying3 (wf_nat j hj)
  obtain ⟨c, hrun, hat, _⟩ := hown.lookup_int Tryz.keyInt Tryz.underlying234 Tryz.underlying3 (Tryz.zeroInt' _) hkey
  rw [h3] at hat
  injection hat with hat
  injection hat with _ hat
  rw [hat]
  exact hrun
set_option maxRecDepth 100000 in
set_option maxHeartbeats 4000000 in
/-- The next sector that is free. -/
theorem free_any (gu gx gt gT b k : Nat) (m : Tm) (js : List Nat) (x y : Nat) (w : World) (hu : Blk w gu 234 [.map (some b)]) (hx : Blk w gx 3 [.int .i64 (x : Nat)]) (ht : Blk w gt 45 [.pointer (some ⟨gT, 0, none⟩)]) (hT : TmAt w gT m) (hU : UsedAt w b k js)
    (hxy : x ≤ y) (hy : y < m.n) (hn : m.n ≤ 4096) (hfree : y ∉ js) (hall : ∀ j, x ≤ j → j < y → j ∈ js) :
    Calls Tryz.prog 129 #[.pointer (some ⟨gu, 0, none⟩), .pointer (some ⟨gx, 0, none⟩), .pointer (some ⟨gt, 0, none⟩)] w fun e w' => e = .returned (.int .i64 (y : Nat)) ∧ Only (· = gx) w w' ∧ Blk w' gx 3 [.int .i64 ((y + 1 : Nat) : Int)] := by
  have hne1 : gu ≠ gx := hu.ne hx (by decide)
  have hne2 : gt ≠ gx := ht.ne hx (by decide)
  have hne3 : gT ≠ gx := hT.ne hx (by decide)
  have hne4 : b ≠ gx := hU.ne hx
  have HU := Lib.hid hu
  have HX := Lib.hid hx
  have HT := Lib.hid ht
  have HM := Lib.hid hT
  have HUU := Lib.hid hU
  have HFR := Lib.hid hfree
  have HAL := Lib.hid hall
  obtain ⟨n, hnn⟩ : ∃ n, m.n = n := ⟨_, rfl⟩
  rw [hnn] at hy hn
  have HN := Lib.hid hnn
  have N1 := Lib.hid hne1
  have N2 := Lib.hid hne2
  have N3 := Lib.hid hne3
  have N4 := Lib.hid hne4
  clear hu hx ht hT hU hfree hall hnn hne1 hne2 hne3 hne4
  go_enter Tryz.func129, Tryz.ntmps129
  go_wp2_with fail
  go_loopw [] (fun wr => ∃ j : Nat, x ≤ j ∧ j ≤ y ∧ Hid (Blk wr gx 3 [.int .i64 (j : Nat)]) ∧ Hid (Only (· = gx) w wr)) (fun wr => y + 1 - (match wr.cell? ⟨gx, 0, none⟩ with | some v => (intOf v).toNat | none => 0))
  case atStart => exact ⟨x, Nat.le_refl _, hxy, HX.out, Only.refl _ _⟩
  case round =>
    obtain ⟨j, hj1, hj2, HJ, HO⟩ := hrel
    obtain ⟨c0, f0⟩ := facts1 HJ.out
    have d0 : wr.cell? ⟨gu, 0, none⟩ = some (.map (some b)) := (HO.out.blk HU.out N1.out).cell 0
    have hU2 := HUU.out.heap (HO.out.block b HUU.out.lt N4.out)
    have hlk := hU2.look j (by omega)
    by_cases hjy : j < y
    · have hc : 0 < js.count j := List.count_pos_iff.2 (HAL.out j hj1 hjy)
      obtain ⟨c, hcc⟩ : ∃ c, js.count j = c := ⟨_, rfl⟩
      rw [hcc] at hlk hc
      have q1 : (0 : Int) < (c : Int) := by omega
      have hwr : IntKind.i64.wrap ((j : Int) + 1) = (j : Int) + 1 := IntWalk.i64_in _ (by omega)
      clear hcc hU2
      go_wp2_with fail
      have hb1 : Blk (wr.setCell ⟨gx, 0, none⟩ (.int .i64 ((j : Int) + 1))) gx 3 [.int .i64 ((j + 1 : Nat) : Int)] := HJ.out.set_ 0 _
      have e1 : (wr.setCell ⟨gx, 0, none⟩ (.int .i64 ((j : Int) + 1))).cell? ⟨gx, 0, none⟩ = some (.int .i64 ((j + 1 : Nat) : Int)) := hb1.cell 0
      refine ⟨⟨j + 1, by omega, by omega, hb1, HO.out.setCell (p := ⟨gx, 0, none⟩) (.inl rfl) _⟩, ?_⟩
      rw [e1, c0]
      simp [intOf]
      omega
    · obtain rfl : j = y := by omega
      have hc : js.count j = 0 := List.count_eq_zero.2 HFR.out
      rw [hc] at hlk
      have d1 : wr.cell? ⟨gt, 0, none⟩ = some (.pointer (some ⟨gT, 0, none⟩)) := (HO.out.blk HT.out N2.out).cell 0
      have d2 : wr.cell? ⟨gT, 2, none⟩ = some (.int .i64 (n : Nat)) := by rw [← HN.out]; exact (HO.out.blk HM.out N3.out).cell 2
      have q1 : (j : Int) < (n : Int) := by omega
      have q2 : decide ((j : Int) ≥ (n : Int)) = false := decide_eq_false (by omega)
      have hwr : IntKind.i64.wrap ((j : Int) + 1) = (j : Int) + 1 := IntWalk.i64_in _ (by omega)
      have hwr2 : IntKind.i64.wrap ((j : Int) + 1 - 1) = (j : Int) := by rw [IntWalk.i64_in _ (by omega)]; omega
      have hwr3 : IntKind.i64.wrap (j : Int) = (j : Int) := IntWalk.i64_in _ (by omega)
      clear hU2 hc
      go_wp2_with fail
      go_region
      all_goals
        go_wp2_with fail
        go_ret
        exact ⟨rfl, (HO.out.setCell (p := ⟨gx, 0, none⟩) (.inl rfl) _).drew, HJ.out.set_ 0 _⟩
end Go.Proofs.YtljmklohgpaopaaGreatDoor

namespace Go.Proofs.YtljmklohgpaopaaGreatDoor
open Go.RowKit Go.Maps Go.WideMaps
set_option linter.unusedSectionVars false
variable [Inhabited LoT]

/-- No block of another type is one of F's. -/
def Spare (F : Nat → Prop) (w : World) (ts : List TypeId) : Prop := ∀ k t, Typ w k t → t ∉ ts → ¬ F k
theorem Kinds.spare {F : Nat → Prop} {w : World} {ts : List TypeId} (h : Kinds F w ts) : Spare F w ts := fun k t ht hn hf => by
  obtain ⟨t', h1, h2⟩ := h k hf
  exact hn (ht.uniq h2 ▸ h1)
theorem UsedAt.spare {w : World} {b k : Nat} {js : List Nat} (h : UsedAt w b k js) : Spare (· = b) w [] := fun x t ht _ hx => by
  subst hx
  obtain ⟨cs, fz, hb⟩ := ht
  obtain ⟨D, ⟨es, clock, h1, h2⟩, h3⟩ := h
  rw [hb] at h1
  cases h1
section
variable {F : Nat → Prop} {w w' : World} {ts : List TypeId}
theorem Spare.mono {ts' : List TypeId} (h : Spare F w ts) (hs : ∀ t ∈ ts, t ∈ ts') : Spare F w ts' := fun k t ht hn => h k t ht (fun hm => hn (hs t hm))
theorem Blk.sp {k : Nat} {t : TypeId} {cs : List Value} (hb : Blk w k t cs) (ho : Only F w w') (hs : Spare F w ts) (ht : t ∉ ts) : Blk w' k t cs := ho.blk hb (hs k t hb.typ ht)
theorem Typ.sp {k : Nat} {t : TypeId} (h : Typ w k t) (ho : Only F w w') (hs : Spare F w ts) (ht : t ∉ ts) : Typ w' k t := by
  have hn := hs k t h ht
  obtain ⟨cs, fz, hb⟩ := h
  exact ⟨cs, fz, (ho.block k (Array.getElem?_eq_some_iff.1 hb).1 hn).trans hb⟩
theorem TSrc.sp {A : Option Addr} {cs : List Value} {t : TypeId} (h : TSrc w A cs t) (ho : Only F w w') (hs : Spare F w ts) (ht : t ∉ ts) : TSrc w' A cs t := by
  obtain ⟨h1, h2⟩ := h
  refine ⟨?_, fun p hp => (h2 p hp).sp ho hs ht⟩
  rcases h1 with h1 | ⟨b, off, rfl, h1⟩
  · exact .inl h1
  · exact .inr ⟨b, off, rfl, fun j u hu => ho.cell (h1 j u hu) (hs _ _ (h2 ⟨b, off, none⟩ rfl) ht)⟩
theorem PgAt.sp {v : Value} {pg : Pg} (h : PgAt w v pg) (ho : Only F w w') (hs : Spare F w ts) (ht : ∀ t ∈ pageTypes, t ∉ ts) : PgAt w' v pg := by
  cases pg with
  | leaf ps =>
    obtain ⟨b, rfl, A, cap, hb, hc, hsr⟩ := h
    exact ⟨b, rfl, A, cap, hb.sp ho hs (ht _ (by simp [pageTypes])), hc, hsr.sp ho hs (ht _ (by simp [pageTypes]))⟩
  | inner ks rs =>
    obtain ⟨b, rfl, A, cap, A', cap', hb, hc, hc', h1, h2⟩ := h
    exact ⟨b, rfl, A, cap, A', cap', hb.sp ho hs (ht _ (by simp [pageTypes])), hc, hc', h1.sp ho hs (ht _ (by simp [pageTypes])), h2.sp ho hs (ht _ (by simp [pageTypes]))⟩
theorem Inv.sp {G : Gh} {D : Nat → Option (List UInt8)} {n : Nat} {S : List Nat} (h : Inv w G D n S) (ho : Only F w w') (hF : Spare F w ts) (h1 : 168 ∉ ts) (h2 : ∀ t ∈ pageTypes, t ∉ ts) : Inv w' G D n S := by
  have pg : ∀ {v : Value} (k : Nat) (t : Pl.Tr k) (so : Option (Pl.ST k)), PgOk w G v k t so → PgOk w' G v k t so := by
    intro v k t so hp
    cases k with
    | zero => exact PgAt.sp (pg := .leaf t) hp ho hF h2
    | succ k =>
      obtain ⟨rs, g1, g2, g3, g4⟩ := hp
      exact ⟨rs, g1.sp ho hF h2, g2, g3, fun s hs i r a hr ha => by
        obtain ⟨pv, h5⟩ := g4 s hs i r a hr ha
        exact ⟨pv, h5.sp ho hF h1⟩⟩
  intro r k t hr
  rcases h r k t hr with ⟨v, g1, g2⟩ | ⟨s, v, g1, g2, g3, g4⟩
  · exact .inl ⟨v, g1.sp ho hF h1, pg _ _ _ g2⟩
  · exact .inr ⟨s, v, g1.sp ho hF h1, g2, g3, g4.imp id (pg _ _ _)⟩
theorem DiskAt.sp {g : Nat} {v : Value} {d : Pl.Dk} {rd : Int} (h : DiskAt w g v d rd) (ho : Only F w w') (hF : Spare F w ts) (h1 : 102 ∉ ts) (h2 : 104 ∉ ts) : DiskAt w' g v d rd := h.only ho fun k hk => by
  obtain ⟨t, k1, k2⟩ := h.kinds k hk
  simp only [List.mem_cons, List.not_mem_nil, or_false] at k1
  rcases k1 with rfl | rfl
  · exact hF _ _ k2 h1
  · exact hF _ _ k2 h2
theorem TW.sp {E : TEnv} {rd : Int} {G : Gh} (h : TW E w rd G) (ho : Only F w w') (hF : Spare F w ts) (h1 : 158 ∉ ts) (h2 : 168 ∉ ts) (h3 : ∀ t ∈ pageTypes, t ∉ ts) (h4 : 102 ∉ ts) (h5 : 104 ∉ ts) : TW E w' rd G :=
  ⟨h.tree.sp ho hF h1, h.disk.sp ho hF h4 h5, h.inv.sp ho hF h2 h3, h.room, h.low⟩
theorem UsedAt.sp {b k : Nat} {js : List Nat} (h : UsedAt w b k js) (ho : Only F w w') (hb : ¬ F b) : UsedAt w' b k js := h.heap (ho.block b h.lt hb)
end
/-- A frame: blocks of these types alone may have changed, and maps. -/
def SFr (ts : List TypeId) (w w' : World) : Prop := ∃ F, Only F w w' ∧ Spare F w ts
theorem SFr.refl (ts : List TypeId) (w : World) : SFr ts w w := ⟨fun _ => False, Only.refl _ _, fun _ _ _ _ h => h⟩
theorem SFr.of_below {ts : List TypeId} {w w' : World} (h : Below w.heap.size w w') : SFr ts w w' := ⟨fun _ => False, Only.of_below h _, fun _ _ _ _ h => h⟩
theorem SFr.trans {ts : List TypeId} {a b c : World} (h : SFr ts a b) (k : SFr ts b c) : SFr ts a c := by
  obtain ⟨F, h1, h2⟩ := h
  obtain ⟨F', k1, k2⟩ := k
  refine ⟨fun x => F x ∨ (x < a.heap.size ∧ F' x), (h1.mono (fun x _ hx => .inl hx)).trans k1 (fun x hx hF => .inr ⟨hx, hF⟩), fun x t ht hn hx => ?_⟩
  have hf := h2 x t ht hn
  rcases hx with hx | ⟨_, hx⟩
  · exact hf hx
  · exact k2 x t (ht.sp h1 h2 hn) hn hx
theorem SFr.mono {ts ts' : List TypeId} {w w' : World} (h : SFr ts w w') (hs : ∀ t ∈ ts, t ∈ ts') : SFr ts' w w' := by
  obtain ⟨F, h1, h2⟩ := h
  exact ⟨F, h1, h2.mono hs⟩
theorem SFr.blk {ts : List TypeId} {w w' : World} (h : SFr ts w w') {k : Nat} {t : TypeId} {cs : List Value} (hb : Blk w k t cs) (ht : t ∉ ts) : Blk w' k t cs := by obtain ⟨F, h1, h2⟩ := h; exact hb.sp h1 h2 ht
theorem SFr.pg {ts : List TypeId} {w w' : World} (h : SFr ts w w') {v : Value} {pg : Pg} (hp : PgAt w v pg) (ht : ∀ t ∈ pageTypes, t ∉ ts) : PgAt w' v pg := by obtain ⟨F, h1, h2⟩ := h; exact hp.sp h1 h2 ht
theorem SFr.tsrc {ts : List TypeId} {w w' : World} (h : SFr ts w w') {A : Option Addr} {cs : List Value} {t : TypeId} (hp : TSrc w A cs t) (ht : t ∉ ts) : TSrc w' A cs t := by obtain ⟨F, h1, h2⟩ := h; exact hp.sp h1 h2 ht
theorem SFr.size {ts : List TypeId} {w w' : World} (h : SFr ts w w') : w.heap.size ≤ w'.heap.size := by obtain ⟨F, h1, _⟩ := h; exact h1.size
theorem TFr.sfr {w w' : World} (h : TFr w w') : SFr [168, 102] w w' := by obtain ⟨F, h1, h2⟩ := h.only; exact ⟨F, h1, h2.spare⟩
theorem SFr.since {ts : List TypeId} {F : Nat → Prop} {w a b : World} (h : SFr ts w a) (k : Only F a b) (hF : ∀ x, x < w.heap.size → ¬ F x) : SFr ts w b := by
  obtain ⟨F', h1, h2⟩ := h
  exact ⟨fun x => F' x ∨ (x < w.heap.size ∧ F x), (h1.mono (fun x _ hx => .inl hx)).trans k (fun x hx hf => .inr ⟨hx, hf⟩), fun x t ht hn hx => by
    rcases hx with hx | ⟨hl, hx⟩
    · exact h2 x t ht hn hx
    · exact hF x hl hx⟩
/-- One more sector is counted. -/
theorem UsedAt.step {w : World} {b k : Nat} {js : List Nat} (j : Nat) (hj : j ≤ 100000) (h : UsedAt w b k js) (hk : k < 100000) (hc : js.length ≤ 100000) :
    ∃ w', (Instr.mapUpdate 234 (.map (some b)) (.int .i64 (j : Int)) (.int .i64 ((js.count j : Nat) + 1 : Int))).run Tryz.prog w = .ok () w' ∧ UsedAt w' b (k + 1) (js ++ [j]) ∧ Only (· = b) w w' := by
  obtain ⟨D, hown, h3, h4⟩ := h
  have hkey : keyOf Tryz.prog 3 (.int .i64 (j : Int)) = some (.int .i64 (j : Int)) := keyOf_int_mk Tryz.underlying3 (wf_nat j hj)
  have htid := hown.tidy Tryz.keyInt
  have hcnt : js.count j ≤ 100000 := Nat.le_trans (List.count_le_length) hc
  have hwf : (Lit.int .i64 ((js.count j : Nat) + 1 : Int)).wf = true := by
    simp only [Lit.wf, IntKind.min, IntKind.max, IntKind.signed, IntKind.bits]
    first | (simp; omega) | omega
  obtain ⟨w', hrun, hown', hg⟩ := hown.update Tryz.keyInt Tryz.underlying234 (by unfold maxLen; omega) hkey (plainElem_int Tryz.underlying3 hwf)
  refine ⟨w', hrun, ⟨_, hown', fun x => ?_, fun n hcnd => ?_, fun x => ?_⟩, ?_⟩
  · by_cases hs : x = j
    · subst hs
      rw [atKey_put_same htid.isMap (show WideAt.IsKeyLit (.int .i64 (x : Int)) from trivial), List.count_append]
      simp
    · rw [atKey_put_other (by intro e; injection e with _ e; exact hs (by omega)), h3, List.count_append]
      have : List.count x [j] = 0 := List.count_eq_zero.2 (by simpa using hs)
      rw [this]; rfl
  · rw [size_put htid, h4.2 j, h4.1 n (fun x hx => hcnd x (List.mem_append_left _ hx)), Pl.dcount_step]
    have h8 := hcnd j (by simp)
    by_cases h9 : j ∈ js
    · simp [h9]
    · simp [h9, h8]
  · by_cases hs : x = j
    · subst hs
      rw [has_put_same htid.isMap (show WideAt.IsKeyLit (.int .i64 (x : Int)) from trivial)]
      simp
    · rw [has_put_other (by intro e; injection e with _ e; exact hs (by omega)), h4.2 x]
      simp [hs]
  · exact ⟨hg.os, hg.tape, hg.output, hg.size, fun i hi hn => hg.block i hi (fun e => hn (Option.some.inj e))⟩
end Go.Proofs.YtljmklohgpaopaaGreatDoor
