/- A tree: Delete, plain's Take; what a tree answers that is bad. A tree that is bad. A tree that is bad, plain's. A tree: what Scan does with a pair. -/
import Derived.Test.YtljmklohgpaopaaGreatDoorMgPlanted18
import Derived.Test.YtljmklohgpaopaaGreatDoorMgPlanted24
set_option linter.unusedVariables false
set_option linter.unusedSimpArgs false

namespace Go.Proofs.YtljmklohgpaopaaGreatDoor
open Go.RowKit
set_option linter.unusedSectionVars false
variable [Inhabited LoT]

theorem enters_del1 (caps : Array Value) (W : World) : (callFunc 144 caps).run Tryz.prog W = .ok (.enter 144 caps) W := by simp [go_sem]
set_option maxRecDepth 100000 in
set_option maxHeartbeats 4000000 in
theorem tdel_any (E : TEnv) (A : Option Addr) (ca : Nat) (key : Pl.Key) (hkf : Pl.KeyFit key) (hn : E.m.n ≤ 4096) (hpg : E.m.pages ≤ 4096) (hbad : E.m.bad = false) (h : Nat) (t : Pl.Tr h) (w : World) (rd : Int) (G : Gh) (hw : TW E w rd G) (hG : G E.m.root = some ⟨h, t⟩) (hok : Pl.RootOk ⟨h, t⟩) (hh : h ≤ 62)
    (hpgs : Pl.pgs (Pl.newRoot (Pl.delL key) key ⟨h, t⟩).1 (Pl.newRoot (Pl.delL key) key ⟨h, t⟩).2 ≤ 50000) (hev : EvAt w) (hA : BytesAt w A key) :
    Calls Tryz.prog 103 #[.pointer (some ⟨E.gT, 0, none⟩), .slice A key.length ca] w fun e w' => ∃ k, e = .returned (errK k) ∧ ChQ E (2 * (h + 1)) rd G (Pl.newRoot (Pl.delL key) key ⟨h, t⟩) (Pl.hasL key (Pl.leafOf h t key) = false) true w k w' := by
  obtain ⟨gt, hgt⟩ : ∃ g, w.heap.size = g := ⟨_, rfl⟩
  obtain ⟨w1, hw1⟩ : ∃ x, w.alloc (.cells #[.pointer (some ⟨E.gT, 0, none⟩)] 45) = x := ⟨_, rfl⟩
  have hb1 : Below w.heap.size w w1 := by rw [← hw1]; exact (Below.refl _ _).alloc (Nat.le_refl _) _
  have B1 : Blk w1 gt 45 [.pointer (some ⟨E.gT, 0, none⟩)] := by rw [← hw1, ← hgt]; exact Blk.new w 45 _
  obtain ⟨gk, hgk⟩ : ∃ g, w1.heap.size = g := ⟨_, rfl⟩
  obtain ⟨w2, hw2⟩ : ∃ x, w1.alloc (.cells #[.string (tstr key)] 9) = x := ⟨_, rfl⟩
  have hb2 : Below w1.heap.size w1 w2 := by rw [← hw2]; exact (Below.refl _ _).alloc (Nat.le_refl _) _
  have B2 : Blk w2 gk 9 [.string (tstr key)] := by rw [← hw2, ← hgk]; exact Blk.new w1 9 _
  have hb12 := hb1.trans (hb2.mono hb1.size)
  have c0 := B1.below hb2 B1.lt
  have cv1 := run_tostr (w1.alloc (.cells #[.string ⟨#[]⟩] 9)) A key ca (BytesAt.keep hA (hb1.alloc hb1.size _))
  have cv2 := run_tostr w1 A key ca (BytesAt.keep hA hb1)
  obtain ⟨x9, hx9⟩ : ∃ x, Pl.newRoot (Pl.delL key) key ⟨h, t⟩ = x := ⟨_, rfl⟩
  obtain ⟨NN, hNN⟩ : ∃ x, (Pl.hasL key (Pl.leafOf h t key) = false) = x := ⟨_, rfl⟩
  have HDO : Hid (Calls Tryz.prog 89 #[.pointer (some ⟨E.gT, 0, none⟩), .func (.func 144) #[] #[.pointer (some ⟨gt, 0, none⟩), .pointer (some ⟨gk, 0, none⟩)]] w2 fun e w' => ∃ k, e = .returned (errK k) ∧ ChQ E (2 * (h + 1)) rd G x9 NN true w k w') := by
    have hwW := hw.below hb12
    obtain ⟨W1, hW1⟩ : ∃ x, w2.alloc (.cells #[.nilIface] 83) = x := ⟨_, rfl⟩
    have hbe : Below w2.heap.size w2 W1 := by rw [← hW1]; exact (Below.refl _ _).alloc (Nat.le_refl _) _
    have he : Blk W1 w2.heap.size 83 [.nilIface] := by rw [← hW1]; exact Blk.new w2 83 _
    have hp := del1_any E gt gk key hn hpg h t W1 rd G (hwW.below hbe) hG hok hh hpgs (hev.tfr ((TFr.of_below hb12).below hbe)) (c0.below hbe c0.lt) (B2.below hbe B2.lt)
    rw [hx9, hNN] at hp
    have hd := tdo_any E.gT E.m 144 #[.pointer (some ⟨gt, 0, none⟩), .pointer (some ⟨gk, 0, none⟩)] w2 hwW.tree hbad (fun k w' => Blk w' w2.heap.size 83 [.nilIface] ∧ ChQ E (2 * (h + 1)) rd G x9 NN false W1 k w') (enters_del1 _)
      (fun k w' hq => by
        obtain ⟨m, hm, ht⟩ := hq.2.tree hbad
        obtain ⟨m0, m1, m2, m3, m4, m5, m6, m7⟩ := m
        dsimp only at hm
        subst hm
        exact ⟨_, _, _, _, _, _, _, ht⟩)
      (by
        rw [hW1]
        exact hp.mono fun e w' hc => by
          obtain ⟨k, hk, hq⟩ := hc.q hbad
          have hbk := hq.1.blk he (by decide)
          exact ⟨hbk, k, hk, hbk, hq⟩)
    refine hd.mono ?_
    rintro e w'' ⟨k, w', ⟨hbk, hq⟩, he', ho, hx⟩
    rw [← hW1] at hq
    have hfin := ChQ.done hwW.tree hwW.low.t hbad hbk hq ho hx
    exact ⟨k, he', ((TFr.of_below hb12).tft.trans hfin.1), hfin.2⟩
  have HKF := Lib.hid hkf
  have hmf : ∀ (fn : Fn) (first cap : Array Value) (w : World), (Instr.makeFunc fn first cap).run Tryz.prog w = .ok (.func fn first cap) w := fun _ _ _ _ => rfl
  obtain ⟨nk, hnk⟩ : ∃ x, key.length = x := ⟨_, rfl⟩
  rw [hnk] at cv1 cv2 ⊢
  rw [hx9, hNN]
  have d0 := c0.cell 0
  have d1 := B2.cell 0
  simp only [List.getElem?_cons_zero] at d0 d1
  clear hx9 hNN hw hG hok hpgs hev hA hkf hb1 hb2 hb12 c0 B1 B2 hnk
  go_enter Tryz.func103, Tryz.ntmps103
  go_wp2_with fail
  refine (treeKey_any key _ HKF.out).mono ?_
  rintro e w' ⟨rfl, rfl⟩
  go_wp2_with fail
  refine HDO.out.mono ?_
  rintro e w' ⟨k, rfl, hq⟩
  have HQ := Lib.hid hq
  clear hq
  go_wp2_with fail
  go_ret
  exact ⟨k, rfl, HQ.out⟩
set_option maxRecDepth 100000 in
set_option maxHeartbeats 2000000 in
theorem ptake_any (E : TEnv) (A : Option Addr) (ca : Nat) (key : Pl.Key) (hkf : Pl.KeyFit key) (hn : E.m.n ≤ 4096) (hpg : E.m.pages ≤ 4096) (hbad : E.m.bad = false) (h : Nat) (t : Pl.Tr h) (w : World) (rd : Int) (G : Gh) (hw : TW E w rd G) (hG : G E.m.root = some ⟨h, t⟩) (hok : Pl.RootOk ⟨h, t⟩) (hh : h ≤ 62)
    (hpgs : Pl.pgs (Pl.newRoot (Pl.delL key) key ⟨h, t⟩).1 (Pl.newRoot (Pl.delL key) key ⟨h, t⟩).2 ≤ 50000) (hev : EvAt w) (hge : GE w) (hA : BytesAt w A key) :
    Calls Tryz.prog 59 #[.pointer (some ⟨E.gT, 0, none⟩), .slice A key.length ca] w fun e w' => ∃ k : Nat, e = .returned (errA (k : Nat) ⟨#[]⟩) ∧ ChQ E (2 * (h + 1)) rd G (Pl.newRoot (Pl.delL key) key ⟨h, t⟩) (Pl.hasL key (Pl.leafOf h t key) = false) true w k w' := by
  have hb0 : Below w.heap.size w (w.alloc err0) := (Below.refl _ _).alloc (Nat.le_refl _) _
  have HC := Lib.hid (tdel_any E A ca key hkf hn hpg hbad h t (w.alloc err0) rd G (hw.below hb0) hG hok hh hpgs (hev.tfr (TFr.of_below hb0)) (hA.keep hb0))
  have BE : Hid (Blk (w.alloc err0) w.heap.size 28 [.int .i64 0, .string ⟨#[]⟩, .bool false]) := Blk.new w 28 _
  have HG0 := Lib.hid (hge.below hb0)
  have HT0 : Hid (TmAt (w.alloc err0) E.gT E.m) := (hw.below hb0).tree
  have HTY : Hid (Typ w E.gT 158) := hw.tree.typ
  have HB0 := Lib.hid hb0
  obtain ⟨x, hx⟩ : ∃ x, Pl.newRoot (Pl.delL key) key ⟨h, t⟩ = x := ⟨_, rfl⟩
  obtain ⟨NN, hNN⟩ : ∃ x, (Pl.hasL key (Pl.leafOf h t key) = false) = x := ⟨_, rfl⟩
  rw [hx, hNN] at HC ⊢
  obtain ⟨nk, hnk⟩ : ∃ x, key.length = x := ⟨_, rfl⟩
  rw [hnk] at HC ⊢
  clear hw hG hok hpgs hev hge hA hb0 hx hnk hNN
  go_enter Tryz.func59, Tryz.ntmps59
  go_wp2_with fail
  refine HC.out.mono ?_
  rintro e w2 ⟨k, rfl, hq⟩
  have HQ := Lib.hid hq
  have hk8 := hq.kind
  have HG2 := Lib.hid (HG0.out.tft HT0.out hq.1)
  have BE2 := Lib.hid (hq.1.blk BE.out (by decide))
  clear hq
  go_wp2_with fail
  refine (told_any _ _ ⟨#[]⟩ _ HG2.out (errK_err _ _) (by omega)).mono ?_
  rintro e w3 ⟨rfl, hb3⟩
  have BE3 := Lib.hid (BE2.out.below hb3 BE2.out.lt)
  obtain ⟨c0, c1, c2, f0, f1, f2⟩ := facts3 BE3.out
  have HB3 := Lib.hid hb3
  clear hb3
  go_wp2_with fail
  refine bodyPost_ret (v := errA _ ⟨#[]⟩) (results_err1 rfl rfl (BE3.out.set3 _ _ _)) rfl ⟨k, rfl, ?_⟩
  have hq1 : ChQ E (2 * (h + 1)) rd G x NN true w k w2 := ⟨(TFr.of_below HB0.out).tft.trans HQ.out.1, HQ.out.2⟩
  have hq2 := hq1.only (Only.of_below HB3.out (fun _ => False)) (fun _ h => h.elim) (fun _ _ h => h) HTY.out
  have ho : Only (· = w.heap.size) w3 w3 := Only.refl _ _
  exact hq2.only (((ho.setCell (p := ⟨w.heap.size, 0, none⟩) (.inl rfl) _).setCell (p := ⟨w.heap.size, 1, none⟩) (.inl rfl) _).setCell (p := ⟨w.heap.size, 2, none⟩) (.inl rfl) _) (one_kinds BE3.out) (fun x hx e => by omega) HTY.out
end Go.Proofs.YtljmklohgpaopaaGreatDoor

namespace Go.Proofs.YtljmklohgpaopaaGreatDoor
open Go.RowKit
set_option linter.unusedSectionVars false
variable [Inhabited LoT]

theorem tdo_bad (gT : Nat) (m : Tm) (f : Value) (w : World) (hT : TmAt w gT m) (hbad : m.bad = true) :
    Calls Tryz.prog 89 #[.pointer (some ⟨gT, 0, none⟩), f] w fun e w' => e = .returned (errK 3) ∧ w = w' := by
  have c7 : w.cell? ⟨gT, 7, none⟩ = some (.bool true) := by rw [← hbad]; exact hT.cell 7
  clear hT hbad
  go_enter Tryz.func89, Tryz.ntmps89
  go_wp2_with fail
  go_ret
  exact ⟨rfl, rfl⟩
set_option maxRecDepth 100000 in
set_option maxHeartbeats 4000000 in
theorem tput_bad (gT : Nat) (m : Tm) (A B : Option Addr) (ca cb : Nat) (key v : Pl.Key) (hkf : Pl.KeyFit key) (hvf : v.length ≤ 100) (w : World) (hT : TmAt w gT m) (hbad : m.bad = true) (hA : BytesAt w A key) (hB : BytesAt w B v) :
    Calls Tryz.prog 46 #[.pointer (some ⟨gT, 0, none⟩), .slice A key.length ca, .slice B v.length cb] w fun e w' => e = .returned (errK 3) ∧ Below w.heap.size w w' := by
  obtain ⟨gt, hgt⟩ : ∃ g, w.heap.size = g := ⟨_, rfl⟩
  obtain ⟨w1, hw1⟩ : ∃ x, w.alloc (.cells #[.pointer (some ⟨gT, 0, none⟩)] 45) = x := ⟨_, rfl⟩
  have hb1 : Below w.heap.size w w1 := by rw [← hw1]; exact (Below.refl _ _).alloc (Nat.le_refl _) _
  have BT : Hid (Blk w1 gt 45 [.pointer (some ⟨gT, 0, none⟩)]) := by rw [Hid, ← hw1, ← hgt]; exact Blk.new w 45 _
  have HB1 := Lib.hid hb1
  have HK : Hid (∀ W, Below w.heap.size w W → BytesAt W A key) := fun W hW => BytesAt.keep hA hW
  have HV : Hid (∀ W, Below w.heap.size w W → BytesAt W B v) := fun W hW => BytesAt.keep hB hW
  have HP1 : Hid (∀ (W : World) (f : Value), Below w.heap.size w W → Calls Tryz.prog 89 #[.pointer (some ⟨gT, 0, none⟩), f] W fun e w' => e = .returned (errK 3) ∧ W = w') := fun W f hW => tdo_bad gT m f W (hT.below hW hT.lt) hbad
  have HKF := Lib.hid hkf
  have HVF := Lib.hid hvf
  have hmf : ∀ (fn : Fn) (first cap : Array Value) (w : World), (Instr.makeFunc fn first cap).run Tryz.prog w = .ok (.func fn first cap) w := fun _ _ _ _ => rfl
  have ck : ∀ W, Below w.heap.size w W → (convert 25 9 (.slice A key.length ca)).run Tryz.prog W = .ok (.string (tstr key)) W := fun W hW => run_tostr W A key ca (HK.out W hW)
  have cv : ∀ W, Below w.heap.size w W → (convert 25 9 (.slice B v.length cb)).run Tryz.prog W = .ok (.string (tstr v)) W := fun W hW => run_tostr W B v cb (HV.out W hW)
  have CK := Lib.hid ck
  have CV := Lib.hid cv
  obtain ⟨nk, hnk⟩ : ∃ x, key.length = x := ⟨_, rfl⟩
  obtain ⟨nv, hnv⟩ : ∃ x, v.length = x := ⟨_, rfl⟩
  rw [hnk] at CK ⊢
  rw [hnv] at CV ⊢
  clear hT hA hB hkf hvf hb1 ck cv hnk hnv HK HV
  go_enter Tryz.func46, Tryz.ntmps46
  go_upto_region 1 with fail
  go_cut [7, 8] from 9 (fun s7 s8 wx => ∃ gk gv, s7 = .pointer (some ⟨gk, 0, none⟩) ∧ s8 = .pointer (some ⟨gv, 0, none⟩) ∧ Hid (Blk wx gk 9 [.string (tstr key)]) ∧ Hid (Blk wx gv 9 [.string (tstr v)]) ∧ Hid (Below w1.heap.size w1 wx))
  case first =>
    have HBA : Hid (∀ W, Below w1.heap.size w1 W → Below w.heap.size w W) := fun W hW => HB1.out.trans (hW.mono HB1.out.size)
    have f1 := CK.out (w1.drew) (HBA.out _ (by first | exact (Below.refl w1.heap.size w1).drew | exact ((Below.refl w1.heap.size w1).alloc (Nat.le_refl _) _).drew | exact (((Below.refl w1.heap.size w1).alloc (Nat.le_refl _) _).alloc (by simp) _).drew))
    have f2 := CK.out ((w1.alloc (.cells #[.string ⟨#[]⟩] 9)).drew) (HBA.out _ (by first | exact (Below.refl w1.heap.size w1).drew | exact ((Below.refl w1.heap.size w1).alloc (Nat.le_refl _) _).drew | exact (((Below.refl w1.heap.size w1).alloc (Nat.le_refl _) _).alloc (by simp) _).drew))
    have f3 := CK.out ((w1.alloc (.cells #[.string (tstr v)] 9)).drew) (HBA.out _ (by first | exact (Below.refl w1.heap.size w1).drew | exact ((Below.refl w1.heap.size w1).alloc (Nat.le_refl _) _).drew | exact (((Below.refl w1.heap.size w1).alloc (Nat.le_refl _) _).alloc (by simp) _).drew))
    have f4 := CK.out (((w1.alloc (.cells #[.string ⟨#[]⟩] 9)).alloc (.cells #[.string ⟨#[]⟩] 9)).drew) (HBA.out _ (by first | exact (Below.refl w1.heap.size w1).drew | exact ((Below.refl w1.heap.size w1).alloc (Nat.le_refl _) _).drew | exact (((Below.refl w1.heap.size w1).alloc (Nat.le_refl _) _).alloc (by simp) _).drew))
    have f5 := CK.out (((w1.alloc (.cells #[.string ⟨#[]⟩] 9)).alloc (.cells #[.string (tstr v)] 9)).drew) (HBA.out _ (by first | exact (Below.refl w1.heap.size w1).drew | exact ((Below.refl w1.heap.size w1).alloc (Nat.le_refl _) _).drew | exact (((Below.refl w1.heap.size w1).alloc (Nat.le_refl _) _).alloc (by simp) _).drew))
    have f6 := CK.out (((w1.alloc (.cells #[.string (tstr v)] 9)).alloc (.cells #[.string ⟨#[]⟩] 9)).drew) (HBA.out _ (by first | exact (Below.refl w1.heap.size w1).drew | exact ((Below.refl w1.heap.size w1).alloc (Nat.le_refl _) _).drew | exact (((Below.refl w1.heap.size w1).alloc (Nat.le_refl _) _).alloc (by simp) _).drew))
    have f7 := CK.out (((w1.alloc (.cells #[.string (tstr v)] 9)).alloc (.cells #[.string (tstr v)] 9)).drew) (HBA.out _ (by first | exact (Below.refl w1.heap.size w1).drew | exact ((Below.refl w1.heap.size w1).alloc (Nat.le_refl _) _).drew | exact (((Below.refl w1.heap.size w1).alloc (Nat.le_refl _) _).alloc (by simp) _).drew))
    have f8 := CV.out (w1.drew) (HBA.out _ (by first | exact (Below.refl w1.heap.size w1).drew | exact ((Below.refl w1.heap.size w1).alloc (Nat.le_refl _) _).drew | exact (((Below.refl w1.heap.size w1).alloc (Nat.le_refl _) _).alloc (by simp) _).drew))
    have f9 := CV.out ((w1.alloc (.cells #[.string ⟨#[]⟩] 9)).drew) (HBA.out _ (by first | exact (Below.refl w1.heap.size w1).drew | exact ((Below.refl w1.heap.size w1).alloc (Nat.le_refl _) _).drew | exact (((Below.refl w1.heap.size w1).alloc (Nat.le_refl _) _).alloc (by simp) _).drew))
    have f10 := CV.out ((w1.alloc (.cells #[.string (tstr key)] 9)).drew) (HBA.out _ (by first | exact (Below.refl w1.heap.size w1).drew | exact ((Below.refl w1.heap.size w1).alloc (Nat.le_refl _) _).drew | exact (((Below.refl w1.heap.size w1).alloc (Nat.le_refl _) _).alloc (by simp) _).drew))
    have f11 := CV.out (((w1.alloc (.cells #[.string ⟨#[]⟩] 9)).alloc (.cells #[.string ⟨#[]⟩] 9)).drew) (HBA.out _ (by first | exact (Below.refl w1.heap.size w1).drew | exact ((Below.refl w1.heap.size w1).alloc (Nat.le_refl _) _).drew | exact (((Below.refl w1.heap.size w1).alloc (Nat.le_refl _) _).alloc (by simp) _).drew))
    have f12 := CV.out (((w1.alloc (.cells #[.string ⟨#[]⟩] 9)).alloc (.cells #[.string (tstr key)] 9)).drew) (HBA.out _ (by first | exact (Below.refl w1.heap.size w1).drew | exact ((Below.refl w1.heap.size w1).alloc (Nat.le_refl _) _).drew | exact (((Below.refl w1.heap.size w1).alloc (Nat.le_refl _) _).alloc (by simp) _).drew))
    have f13 := CV.out (((w1.alloc (.cells #[.string (tstr key)] 9)).alloc (.cells #[.string ⟨#[]⟩] 9)).drew) (HBA.out _ (by first | exact (Below.refl w1.heap.size w1).drew | exact ((Below.refl w1.heap.size w1).alloc (Nat.le_refl _) _).drew | exact (((Below.refl w1.heap.size w1).alloc (Nat.le_refl _) _).alloc (by simp) _).drew))
    have f14 := CV.out (((w1.alloc (.cells #[.string (tstr key)] 9)).alloc (.cells #[.string (tstr key)] 9)).drew) (HBA.out _ (by first | exact (Below.refl w1.heap.size w1).drew | exact ((Below.refl w1.heap.size w1).alloc (Nat.le_refl _) _).drew | exact (((Below.refl w1.heap.size w1).alloc (Nat.le_refl _) _).alloc (by simp) _).drew))
    go_region
    all_goals
      go_wp2_with fail
      go_meet
      case rel =>
        first
        | exact ⟨_, _, rfl, rfl, (two_str w1 (.string (tstr key)) (.string (tstr v))).1, (two_str w1 (.string (tstr key)) (.string (tstr v))).2.1, (two_str w1 (.string (tstr key)) (.string (tstr v))).2.2⟩
        | exact ⟨_, _, rfl, rfl, (two_str w1 (.string (tstr v)) (.string (tstr key))).2.1, (two_str w1 (.string (tstr v)) (.string (tstr key))).1, (two_str w1 (.string (tstr v)) (.string (tstr key))).2.2⟩
  case rest =>
    obtain ⟨gk, gv, rfl, rfl, hbk, hbvy, hbw⟩ := hcut
    obtain ⟨wx, hwx, BK, BV, HBW⟩ : ∃ x, x = wc ∧ Hid (Blk x gk 9 [.string (tstr key)]) ∧ Hid (Blk x gv 9 [.string (tstr v)]) ∧ Hid (Below w1.heap.size w1 x) := ⟨wc, rfl, hbk, hbvy, hbw⟩
    subst hwx
    clear hbk hbvy hbw
    have c1 : wx.cell? ⟨gk, 0, none⟩ = some (.string (tstr key)) := BK.out.cell 0
    have c2 : wx.cell? ⟨gv, 0, none⟩ = some (.string (tstr v)) := BV.out.cell 0
    have c3 : wx.cell? ⟨gt, 0, none⟩ = some (.pointer (some ⟨gT, 0, none⟩)) := (BT.out.below HBW.out BT.out.lt).cell 0
    have HBX : Hid (Below w.heap.size w wx) := HB1.out.trans (HBW.out.mono HB1.out.size)
    have HDO := Lib.hid (fun f => HP1.out wx f HBX.out)
    go_wp2_with fail
    refine (treeKey_any key _ HKF.out).mono ?_
    rintro e w' ⟨rfl, rfl⟩
    go_wp2_with fail
    refine (treeVal_any v _ HVF.out).mono ?_
    rintro e w' ⟨rfl, rfl⟩
    go_wp2_with fail
    refine (HDO.out _).mono ?_
    rintro e w' ⟨rfl, rfl⟩
    have hek : errK 3 = .iface 26 (.int .i64 3) := rfl
    go_wp2_with fail
    go_ret
    exact ⟨rfl, HBX.out⟩
set_option maxRecDepth 100000 in
set_option maxHeartbeats 4000000 in
theorem tdel_bad (gT : Nat) (m : Tm) (A : Option Addr) (ca : Nat) (key : Pl.Key) (hkf : Pl.KeyFit key) (w : World) (hT : TmAt w gT m) (hbad : m.bad = true) (hA : BytesAt w A key) :
    Calls Tryz.prog 103 #[.pointer (some ⟨gT, 0, none⟩), .slice A key.length ca] w fun e w' => e = .returned (errK 3) ∧ Below w.heap.size w w' := by
  obtain ⟨gt, hgt⟩ : ∃ g, w.heap.size = g := ⟨_, rfl⟩
  obtain ⟨w1, hw1⟩ : ∃ x, w.alloc (.cells #[.pointer (some ⟨gT, 0, none⟩)] 45) = x := ⟨_, rfl⟩
  have hb1 : Below w.heap.size w w1 := by rw [← hw1]; exact (Below.refl _ _).alloc (Nat.le_refl _) _
  have B1 : Blk w1 gt 45 [.pointer (some ⟨gT, 0, none⟩)] := by rw [← hw1, ← hgt]; exact Blk.new w 45 _
  obtain ⟨gk, hgk⟩ : ∃ g, w1.heap.size = g := ⟨_, rfl⟩
  obtain ⟨w2, hw2⟩ : ∃ x, w1.alloc (.cells #[.string (tstr key)] 9) = x := ⟨_, rfl⟩
  have hb2 : Below w1.heap.size w1 w2 := by rw [← hw2]; exact (Below.refl _ _).alloc (Nat.le_refl _) _
  have B2 : Blk w2 gk 9 [.string (tstr key)] := by rw [← hw2, ← hgk]; exact Blk.new w1 9 _
  have hb12 := hb1.trans (hb2.mono hb1.size)
  have c0 := B1.below hb2 B1.lt
  have cv1 := run_tostr (w1.alloc (.cells #[.string ⟨#[]⟩] 9)) A key ca (BytesAt.keep hA (hb1.alloc hb1.size _))
  have cv2 := run_tostr w1 A key ca (BytesAt.keep hA hb1)
  have HDO := Lib.hid (fun f : Value => tdo_bad gT m f w2 (hT.below hb12 hT.lt) hbad)
  have HKF := Lib.hid hkf
  have HB12 := Lib.hid hb12
  have hmf : ∀ (fn : Fn) (first cap : Array Value) (w : World), (Instr.makeFunc fn first cap).run Tryz.prog w = .ok (.func fn first cap) w := fun _ _ _ _ => rfl
  obtain ⟨nk, hnk⟩ : ∃ x, key.length = x := ⟨_, rfl⟩
  rw [hnk] at cv1 cv2 ⊢
  have d0 := c0.cell 0
  have d1 := B2.cell 0
  simp only [List.getElem?_cons_zero] at d0 d1
  clear hT hA hkf hb1 hb2 hb12 c0 B1 B2 hnk
  go_enter Tryz.func103, Tryz.ntmps103
  go_wp2_with fail
  refine (treeKey_any key _ HKF.out).mono ?_
  rintro e w' ⟨rfl, rfl⟩
  go_wp2_with fail
  refine (HDO.out _).mono ?_
  rintro e w' ⟨rfl, rfl⟩
  have hek : errK 3 = .iface 26 (.int .i64 3) := rfl
  go_wp2_with fail
  go_ret
  exact ⟨rfl, HB12.out⟩
set_option maxRecDepth 100000 in
set_option maxHeartbeats 4000000 in
theorem tsave_bad (gT : Nat) (m : Tm) (w : World) (hT : TmAt w gT m) (hbad : m.bad = true) :
    Calls Tryz.prog 47 #[.pointer (some ⟨gT, 0, none⟩)] w fun e w' => e = .returned (errK 3) ∧ Below w.heap.size w w' := by
  obtain ⟨gt, hgt⟩ : ∃ g, w.heap.size = g := ⟨_, rfl⟩
  obtain ⟨w1, hw1⟩ : ∃ x, w.alloc (.cells #[.pointer (some ⟨gT, 0, none⟩)] 45) = x := ⟨_, rfl⟩
  have hb1 : Below w.heap.size w w1 := by rw [← hw1]; exact (Below.refl _ _).alloc (Nat.le_refl _) _
  have B1 : Blk w1 gt 45 [.pointer (some ⟨gT, 0, none⟩)] := by rw [← hw1, ← hgt]; exact Blk.new w 45 _
  have HDO := Lib.hid (fun f : Value => tdo_bad gT m f w1 (hT.below hb1 hT.lt) hbad)
  have HB1 := Lib.hid hb1
  have d0 : w1.cell? ⟨gt, 0, none⟩ = some (.pointer (some ⟨gT, 0, none⟩)) := B1.cell 0
  have hmf : ∀ (fn : Fn) (first cap : Array Value) (w : World), (Instr.makeFunc fn first cap).run Tryz.prog w = .ok (.func fn first cap) w := fun _ _ _ _ => rfl
  clear hT hb1 B1
  go_enter Tryz.func47, Tryz.ntmps47
  go_wp2_with fail
  refine (HDO.out _).mono ?_
  rintro e w' ⟨rfl, rfl⟩
  have hek : errK 3 = .iface 26 (.int .i64 3) := rfl
  go_wp2_with fail
  go_ret
  exact ⟨rfl, HB1.out⟩
end Go.Proofs.YtljmklohgpaopaaGreatDoor

namespace Go.Proofs.YtljmklohgpaopaaGreatDoor
open Go.RowKit
set_option linter.unusedSectionVars false
variable [Inhabited LoT]

set_option maxRecDepth 100000 in
set_option maxHeartbeats 2000000 in
theorem pput_bad (gT : Nat) (m : Tm) (A B : Option Addr) (ca cb : Nat) (key v : Pl.Key) (hkf : Pl.KeyFit key) (hvf : v.length ≤ 100) (w : World) (hT : TmAt w gT m) (hbad : m.bad = true) (hge : GE w) (hA : BytesAt w A key) (hB : BytesAt w B v) :
    Calls Tryz.prog 21 #[.pointer (some ⟨gT, 0, none⟩), .slice A key.length ca, .slice B v.length cb] w fun e w' => e = .returned (errA 3 ⟨#[]⟩) ∧ Below w.heap.size w w' := by
  have hb0 : Below w.heap.size w (w.alloc err0) := (Below.refl _ _).alloc (Nat.le_refl _) _
  have HC := Lib.hid (tput_bad gT m A B ca cb key v hkf hvf (w.alloc err0) (hT.below hb0 hT.lt) hbad (hA.keep hb0) (hB.keep hb0))
  have BE : Hid (Blk (w.alloc err0) w.heap.size 28 [.int .i64 0, .string ⟨#[]⟩, .bool false]) := Blk.new w 28 _
  have HG0 := Lib.hid (hge.below hb0)
  have HB0 := Lib.hid hb0
  obtain ⟨nk, hnk⟩ : ∃ x, key.length = x := ⟨_, rfl⟩
  rw [hnk] at HC ⊢
  obtain ⟨nv, hnv⟩ : ∃ x, v.length = x := ⟨_, rfl⟩
  rw [hnv] at HC ⊢
  clear hT hge hb0 hA hB hkf hvf hnk hnv
  go_enter Tryz.func21, Tryz.ntmps21
  go_wp2_with fail
  refine HC.out.mono ?_
  rintro e w2 ⟨rfl, hb2⟩
  have HG2 := Lib.hid (HG0.out.below hb2)
  have BE2 := Lib.hid (BE.out.below hb2 BE.out.lt)
  have HB2 := Lib.hid (HB0.out.trans (hb2.mono HB0.out.size))
  clear hb2
  go_wp2_with fail
  refine (told_any _ _ ⟨#[]⟩ _ HG2.out (errK_err _ _) (by omega)).mono ?_
  rintro e w3 ⟨rfl, hb3⟩
  have BE3 := Lib.hid (BE2.out.below hb3 BE2.out.lt)
  obtain ⟨c0, c1, c2, f0, f1, f2⟩ := facts3 BE3.out
  have HB3 := Lib.hid (HB2.out.trans (hb3.mono HB2.out.size))
  clear hb3
  go_wp2_with fail
  refine bodyPost_ret (v := errA _ ⟨#[]⟩) (results_err1 rfl rfl (BE3.out.set3 _ _ _)) rfl ⟨rfl, ?_⟩
  exact ((HB3.out.setCell (p := ⟨w.heap.size, 0, none⟩) (Nat.le_refl _) _).setCell (p := ⟨w.heap.size, 1, none⟩) (Nat.le_refl _) _).setCell (p := ⟨w.heap.size, 2, none⟩) (Nat.le_refl _) _
set_option maxRecDepth 100000 in
set_option maxHeartbeats 2000000 in
theorem ptake_bad (gT : Nat) (m : Tm) (A : Option Addr) (ca : Nat) (key : Pl.Key) (hkf : Pl.KeyFit key) (w : World) (hT : TmAt w gT m) (hbad : m.bad = true) (hge : GE w) (hA : BytesAt w A key) :
    Calls Tryz.prog 59 #[.pointer (some ⟨gT, 0, none⟩), .slice A key.length ca] w fun e w' => e = .returned (errA 3 ⟨#[]⟩) ∧ Below w.heap.size w w' := by
  have hb0 : Below w.heap.size w (w.alloc err0) := (Below.refl _ _).alloc (Nat.le_refl _) _
  have HC := Lib.hid (tdel_bad gT m A ca key hkf (w.alloc err0) (hT.below hb0 hT.lt) hbad (hA.keep hb0))
  have BE : Hid (Blk (w.alloc err0) w.heap.size 28 [.int .i64 0, .string ⟨#[]⟩, .bool false]) := Blk.new w 28 _
  have HG0 := Lib.hid (hge.below hb0)
  have HB0 := Lib.hid hb0
  obtain ⟨nk, hnk⟩ : ∃ x, key.length = x := ⟨_, rfl⟩
  rw [hnk] at HC ⊢
  clear hT hge hb0 hA hkf hnk
  go_enter Tryz.func59, Tryz.ntmps59
  go_wp2_with fail
  refine HC.out.mono ?_
  rintro e w2 ⟨rfl, hb2⟩
  have HG2 := Lib.hid (HG0.out.below hb2)
  have BE2 := Lib.hid (BE.out.below hb2 BE.out.lt)
  have HB2 := Lib.hid (HB0.out.trans (hb2.mono HB0.out.size))
  clear hb2
  go_wp2_with fail
  refine (told_any _ _ ⟨#[]⟩ _ HG2.out (errK_err _ _) (by omega)).mono ?_
  rintro e w3 ⟨rfl, hb3⟩
  have BE3 := Lib.hid (BE2.out.below hb3 BE2.out.lt)
  obtain ⟨c0, c1, c2, f0, f1, f2⟩ := facts3 BE3.out
  have HB3 := Lib.hid (HB2.out.trans (hb3.mono HB2.out.size))
  clear hb3
  go_wp2_with fail
  refine bodyPost_ret (v := errA _ ⟨#[]⟩) (results_err1 rfl rfl (BE3.out.set3 _ _ _)) rfl ⟨rfl, ?_⟩
  exact ((HB3.out.setCell (p := ⟨w.heap.size, 0, none⟩) (Nat.le_refl _) _).setCell (p := ⟨w.heap.size, 1, none⟩) (Nat.le_refl _) _).setCell (p := ⟨w.heap.size, 2, none⟩) (Nat.le_refl _) _
set_option maxRecDepth 100000 in
set_option maxHeartbeats 2000000 in
theorem psave_bad (gT : Nat) (m : Tm) (w : World) (hT : TmAt w gT m) (hbad : m.bad = true) (hge : GE w) :
    Calls Tryz.prog 23 #[.pointer (some ⟨gT, 0, none⟩)] w fun e w' => e = .returned (errA 3 ⟨#[]⟩) ∧ Below w.heap.size w w' := by
  have hb0 : Below w.heap.size w (w.alloc err0) := (Below.refl _ _).alloc (Nat.le_refl _) _
  have HC := Lib.hid (tsave_bad gT m (w.alloc err0) (hT.below hb0 hT.lt) hbad)
  have BE : Hid (Blk (w.alloc err0) w.heap.size 28 [.int .i64 0, .string ⟨#[]⟩, .bool false]) := Blk.new w 28 _
  have HG0 := Lib.hid (hge.below hb0)
  have HB0 := Lib.hid hb0
  clear hT hge hb0
  go_enter Tryz.func23, Tryz.ntmps23
  go_wp2_with fail
  refine HC.out.mono ?_
  rintro e w2 ⟨rfl, hb2⟩
  have HG2 := Lib.hid (HG0.out.below hb2)
  have BE2 := Lib.hid (BE.out.below hb2 BE.out.lt)
  have HB2 := Lib.hid (HB0.out.trans (hb2.mono HB0.out.size))
  clear hb2
  go_wp2_with fail
  refine (told_any _ _ ⟨#[]⟩ _ HG2.out (errK_err _ _) (by omega)).mono ?_
  rintro e w3 ⟨rfl, hb3⟩
  have BE3 := Lib.hid (BE2.out.below hb3 BE2.out.lt)
  obtain ⟨c0, c1, c2, f0, f1, f2⟩ := facts3 BE3.out
  have HB3 := Lib.hid (HB2.out.trans (hb3.mono HB2.out.size))
  clear hb3
  go_wp2_with fail
  refine bodyPost_ret (v := errA _ ⟨#[]⟩) (results_err1 rfl rfl (BE3.out.set3 _ _ _)) rfl ⟨rfl, ?_⟩
  exact ((HB3.out.setCell (p := ⟨w.heap.size, 0, none⟩) (Nat.le_refl _) _).setCell (p := ⟨w.heap.size, 1, none⟩) (Nat.le_refl _) _).setCell (p := ⟨w.heap.size, 2, none⟩) (Nat.le_refl _) _
end Go.Proofs.YtljmklohgpaopaaGreatDoor

namespace Go.Proofs.YtljmklohgpaopaaGreatDoor
open Go.RowKit
set_option linter.unusedSectionVars false
variable [Inhabited LoT]

theorem Tryz.eltApiPair : Elt 127 129 2 := by
  obtain ⟨i, h1, h2, h3, h4⟩ := info_parts (show (Tryz.prog.info? 129).map (fun i => (i.zero, i.size, i.bytes)) = some (some (.agg #[.slice none 0 0, .slice none 0 0]), 2, 48) by kernel_rfl)
  exact ⟨Tryz.underlying127, ⟨i, _, h1, h2, h3, by omega, rfl⟩, by omega⟩
/-- Bytes in a block of bytes. -/
def BtAt (w : World) (A : Option Addr) (l : List UInt8) : Prop := BytesAt w A l ∧ ∀ q, A = some q → Typ w q.block 5
theorem BtAt.only {F : Nat → Prop} {w w' : World} {A : Option Addr} {l : List UInt8} {ts : List TypeId} (h : BtAt w A l) (ho : Only F w w') (hk : Kinds F w ts) (h1 : 5 ∉ ts) : BtAt w' A l :=
  ⟨byt_kinds h.1 h.2 ho hk h1, fun q hq => (h.2 q hq).only ho hk h1⟩
def PpAt (w : World) (c : List Value) (p : Pl.Pr) : Prop := ∃ A ca B cb, c = [.slice A p.key.length ca, .slice B p.val.length cb] ∧ BtAt w A p.key ∧ BtAt w B p.val
/-- Pairs that were told. -/
def OutPr (w : World) (base : Nat) (v : Value) (acc : List Pl.Pr) : Prop := ∃ cs, Rw 129 2 w base v acc.length cs ∧ RowsR 2 (PpAt w) cs acc
theorem PpAt.only {F : Nat → Prop} {w w' : World} {c : List Value} {p : Pl.Pr} {ts : List TypeId} (h : PpAt w c p) (ho : Only F w w') (hk : Kinds F w ts) (h1 : 5 ∉ ts) : PpAt w' c p := by
  obtain ⟨A, ca, B, cb, e, h2, h3⟩ := h
  exact ⟨A, ca, B, cb, e, h2.only ho hk h1, h3.only ho hk h1⟩
theorem OutPr.only {F : Nat → Prop} {w w' : World} {base : Nat} {v : Value} {acc : List Pl.Pr} {ts : List TypeId} (h : OutPr w base v acc) (ho : Only F w w') (hk : Kinds F w ts) (h1 : 5 ∉ ts) (h2 : 129 ∉ ts) : OutPr w' base v acc := by
  obtain ⟨cs, h3, h4⟩ := h
  exact ⟨cs, h3.only ho (fun g hg hf => by
    obtain ⟨t, k1, k2⟩ := hk g hf
    exact h2 ((own_typ h3 hg).uniq k2 ▸ k1)), h4.mono (fun c x _ hx => hx.only ho hk h1)⟩
theorem OutPr.nil (w : World) (base : Nat) : OutPr w base (.slice none 0 0) [] := ⟨[], Rw.nil w base, RowsR.nil _ _⟩
structure ScAt (w : World) (go gm base many : Nat) (acc : List Pl.Pr) : Prop where
  out : ∃ v, Blk w go 127 [v] ∧ OutPr w base v acc
  many : Blk w gm 3 [.int .i64 (many : Nat)]
theorem ScAt.only {F : Nat → Prop} {w w' : World} {go gm base many : Nat} {acc : List Pl.Pr} {ts : List TypeId} (h : ScAt w go gm base many acc) (ho : Only F w w') (hk : Kinds F w ts) (h1 : 5 ∉ ts) (h2 : 129 ∉ ts) (h3 : 127 ∉ ts) (h4 : 3 ∉ ts) : ScAt w' go gm base many acc := by
  obtain ⟨v, k1, k2⟩ := h.out
  exact ⟨⟨v, ho.blk_ hk k1 h3, k2.only ho hk h1 h2⟩, ho.blk_ hk h.many h4⟩
theorem ScAt.below {w w' : World} {go gm base many : Nat} {acc : List Pl.Pr} (h : ScAt w go gm base many acc) (hb : Below w.heap.size w w') : ScAt w' go gm base many acc :=
  h.only (Only.of_below hb (fun _ => False)) (ts := []) (fun _ h => h.elim) (by simp) (by simp) (by simp) (by simp)
/-- What a pair's telling may change. -/
def ScFr (base : Nat) (w w' : World) : Prop := ∃ F, Only F w w' ∧ Kinds F w [127, 129] ∧ ∀ k, F k → base ≤ k
set_option maxRecDepth 100000 in
set_option maxHeartbeats 4000000 in
theorem scan11_any (go gm base many : Nat) (acc : List Pl.Pr) (p : Pl.Pr) (w : World) (hs : ScAt w go gm base many acc) (hgo : base ≤ go) (hb : base ≤ w.heap.size) (hp : p.key.length ≤ 1000 ∧ p.val.length ≤ 1000) (hl : acc.length ≤ 100000) (hm : many ≤ 100000) :
    Calls Tryz.prog 143 #[.agg #[.string (tstr p.key), .string (tstr p.val)], .pointer (some ⟨go, 0, none⟩), .pointer (some ⟨gm, 0, none⟩)] w fun e w' =>
      e = .returned (.bool (decide (acc.length + 1 < many))) ∧ ScAt w' go gm base many (acc ++ [p]) ∧ ScFr base w w' := by
  obtain ⟨v, hbo, cs, hrw, hrr⟩ := hs.out
  obtain ⟨A0, cap0, rfl, _, _, _⟩ := hrw.tsrc
  have hbm := hs.many
  obtain ⟨nk, hnk⟩ : ∃ x, p.key.length = x := ⟨_, rfl⟩
  obtain ⟨nv, hnv⟩ : ∃ x, p.val.length = x := ⟨_, rfl⟩
  obtain ⟨na, hna⟩ : ∃ x, acc.length = x := ⟨_, rfl⟩
  obtain ⟨gp, hgp⟩ : ∃ g, w.heap.size = g := ⟨_, rfl⟩
  obtain ⟨w1, hw1⟩ : ∃ x, w.alloc (.cells #[.string (tstr p.key), .string (tstr p.val)] 175) = x := ⟨_, rfl⟩
  have hb1 : Below w.heap.size w w1 := by rw [← hw1]; exact (Below.refl _ _).alloc (Nat.le_refl _) _
  have B1 : Blk w1 gp 175 [.string (tstr p.key), .string (tstr p.val)] := by rw [← hw1, ← hgp]; exact Blk.new w 175 _
  have hcv1 := run_tobytes w1 (tstr p.key)
  rw [tstr_size, hnk] at hcv1
  obtain ⟨cz1, hcz1⟩ : ∃ x, grownCap w1 nk 0 5 = x := ⟨_, rfl⟩
  rw [hcz1] at hcv1
  obtain ⟨g1, hg1⟩ : ∃ g, w1.heap.size = g := ⟨_, rfl⟩
  obtain ⟨w2, hw2⟩ : ∃ x, w1.drew.alloc (bytesObj (tstr p.key) cz1) = x := ⟨_, rfl⟩
  rw [hg1, hw2] at hcv1
  have hb2 : Below w1.heap.size w1 w2 := by rw [← hw2]; exact ((Below.refl w1.heap.size w1).drew).alloc (Nat.le_refl _) _
  have hB2 : BtAt w2 (some ⟨g1, 0, none⟩) p.key := by
    have h1 : w2.heap[g1]? = some (bytesObj (tstr p.key) cz1) := by rw [← hw2, ← hg1]; exact heap_alloc_new w1.drew _
    exact ⟨bytesObj_at h1, fun q hq => by cases hq; exact ⟨_, _, h1⟩⟩
  have hcv2 := run_tobytes w2 (tstr p.val)
  rw [tstr_size, hnv] at hcv2
  obtain ⟨cz2, hcz2⟩ : ∃ x, grownCap w2 nv 0 5 = x := ⟨_, rfl⟩
  rw [hcz2] at hcv2
  obtain ⟨g2, hg2⟩ : ∃ g, w2.heap.size = g := ⟨_, rfl⟩
  obtain ⟨w3, hw3⟩ : ∃ x, w2.drew.alloc (bytesObj (tstr p.val) cz2) = x := ⟨_, rfl⟩
  rw [hg2, hw3] at hcv2
  have hb3 : Below w2.heap.size w2 w3 := by rw [← hw3]; exact ((Below.refl w2.heap.size w2).drew).alloc (Nat.le_refl _) _
  have hB3 : BtAt w3 (some ⟨g2, 0, none⟩) p.val := by
    have h1 : w3.heap[g2]? = some (bytesObj (tstr p.val) cz2) := by rw [← hw3, ← hg2]; exact heap_alloc_new w2.drew _
    exact ⟨bytesObj_at h1, fun q hq => by cases hq; exact ⟨_, _, h1⟩⟩
  obtain ⟨g3, hg3⟩ : ∃ g, w3.heap.size = g := ⟨_, rfl⟩
  obtain ⟨w4, hw4⟩ : ∃ x, w3.alloc (.cells #[.slice (some ⟨g1, 0, none⟩) nk cz1, .slice (some ⟨g2, 0, none⟩) nv cz2] 129) = x := ⟨_, rfl⟩
  have hb4 : Below w3.heap.size w3 w4 := by rw [← hw4]; exact (Below.refl _ _).alloc (Nat.le_refl _) _
  have B4 : Blk w4 g3 129 [.slice (some ⟨g1, 0, none⟩) nk cz1, .slice (some ⟨g2, 0, none⟩) nv cz2] := by rw [← hw4, ← hg3]; exact Blk.new w3 129 _
  have S4 : Src w4 (some ⟨g3, 0, none⟩) [.slice (some ⟨g1, 0, none⟩) nk cz1, .slice (some ⟨g2, 0, none⟩) nv cz2] := Src.of_blk B4
  have hb12 := hb1.trans (hb2.mono hb1.size)
  have hb13 := hb12.trans (hb3.mono hb12.size)
  have hb14 := hb13.trans (hb4.mono hb13.size)
  have nof : ∀ {a b : World} (h : Below a.heap.size a b), Kinds (fun _ => False) a ([] : List TypeId) := fun _ _ h => h.elim
  have PP4 : PpAt w4 [.slice (some ⟨g1, 0, none⟩) nk cz1, .slice (some ⟨g2, 0, none⟩) nv cz2] p := by
    have hb24 := hb3.trans (hb4.mono hb3.size)
    refine ⟨_, cz1, _, cz2, by rw [hnk, hnv], hB2.only (Only.of_below hb24 (fun _ => False)) (nof hb24) (by simp), hB3.only (Only.of_below hb4 (fun _ => False)) (nof hb4) (by simp)⟩
  have R4 : Rw 129 2 w4 base (.slice A0 acc.length cap0) acc.length cs := hrw.below hb14
  have RR4 : RowsR 2 (PpAt w4) cs acc := hrr.mono (fun c x _ hx => hx.only (Only.of_below hb14 (fun _ => False)) (nof hb14) (by simp))
  have BO4 := hbo.below hb14 hbo.lt
  have BM4 := hbm.below hb14 hbm.lt
  have c1 := (hbo.below hb1 hbo.lt).cell 0
  have c2 : w1.cell? ⟨gp, 0, none⟩ = some (.string (tstr p.key)) := B1.cell 0
  have c3 : w2.cell? ⟨gp, 1, none⟩ = some (.string (tstr p.val)) := (B1.below hb2 B1.lt).cell 1
  simp only [List.getElem?_cons_zero] at c1
  rw [hna] at c1 R4
  have HX := Lib.hid (And.intro R4 (And.intro RR4 (And.intro PP4 (And.intro BO4 (And.intro BM4 (And.intro S4 (And.intro hb14 hrr)))))))
  have HNA := Lib.hid hna
  have HKW : Hid (Kinds (fun k => k = go ∨ (Value.slice A0 na cap0).ownBlock = some k) w [127, 129]) := fun k hk => by
    rcases hk with rfl | hk
    · exact ⟨_, by simp, hbo.typ⟩
    · exact ⟨_, by simp, own_typ hrw (by rw [hna]; exact hk)⟩
  have hmo : ((na : Int) + 1 < (many : Int)) ↔ (na + 1 < many) := by omega
  have hq : decide ((na : Int) + 1 < (many : Int)) = decide (na + 1 < many) := by simp [hmo]
  have HB1' := Lib.hid hbo
  have HSZ := Lib.hid (And.intro hgo (And.intro hb (And.intro hl hm)))
  have hl' : na ≤ 100000 := by omega
  have hwn : IntKind.i64.wrap ((na : Int) + 1) = (na : Int) + 1 := IntWalk.i64_in _ (by omega)
  clear hs hbo hrw hrr hbm hb1 B1 hb2 hB2 hb3 hB3 hb4 B4 S4 hb12 hb13 hb14 nof PP4 R4 RR4 BO4 BM4 hcz1 hcz2 hna hnk hnv hl
  go_enter Tryz.func143, Tryz.ntmps143
  go_wp2_with (first
    | (at_builtin
       refine wpList_rw Tryz.eltApiPair rfl (.tmp 5) (.tmp 13) rfl rfl HX.out.1 (some ⟨g3, 0, none⟩) 1 1 [.slice (some ⟨g1, 0, none⟩) nk cz1, .slice (some ⟨g2, 0, none⟩) nv cz2] rfl rfl HX.out.2.2.2.2.2.1 (by intro u hu; simp only [List.mem_cons, List.not_mem_nil, or_false] at hu; rcases hu with rfl | rfl <;> rfl) (by omega) (Nat.le_trans HSZ.out.2.1 HX.out.2.2.2.2.2.2.1.size) ?_
       intro v5 w5 r5 m5
       obtain ⟨A5, cap5, rfl, _, _, _⟩ := r5.tsrc
       have hne : ∀ {k : Nat} {t : TypeId} {c : List Value}, Blk w4 k t c → t ≠ 129 → ¬ (Value.slice A0 na cap0).ownBlock = some k := fun hbk ht e => ht (hbk.typ.uniq (own_typ HX.out.1 e))
       have BO5 := m5.only.blk HX.out.2.2.2.1 (hne HX.out.2.2.2.1 (by decide))
       have BM5 := m5.only.blk HX.out.2.2.2.2.1 (hne HX.out.2.2.2.2.1 (by decide))
       obtain ⟨x0, z0⟩ := facts1 BO5
       obtain ⟨w6, hw6⟩ : ∃ x, w5.setCell ⟨go, 0, none⟩ (.slice A5 (na + 1) cap5) = x := ⟨_, rfl⟩
       have BO6 : Blk w6 go 127 [.slice A5 (na + 1) cap5] := by rw [← hw6]; exact BO5.set_ 0 _
       have ho6 : Only (· = go) w5 w6 := by rw [← hw6]; exact (Only.refl (· = go) w5).setCell (p := ⟨go, 0, none⟩) (.inl rfl) _
       have BM6 := ho6.blk BM5 (BM5.ne BO5 (by decide))
       obtain ⟨y0, _⟩ := facts1 BO6
       obtain ⟨y1, _⟩ := facts1 BM6
       have HR5 := Lib.hid (And.intro r5 (And.intro m5 (And.intro BO5 (And.intro BM5 (And.intro BO6 (And.intro BM6 ho6))))))
       clear r5 m5 hne BO5 BM5 BO6 BM6 ho6)
    | fail)
  go_ret
  obtain ⟨R4, RR4, PP4, BO4, BM4, S4, hb14, hrr⟩ := HX.out
  obtain ⟨r5, m5, BO5, BM5, BO6, BM6, ho6⟩ := HR5.out
  have hk5 : Kinds (fun k => (Value.slice A0 na cap0).ownBlock = some k) w4 [129] := fun k hk => ⟨_, by simp, own_typ R4 hk⟩
  have hk6 : Kinds (· = go) w5 [127] := one_kinds BO5
  have hmv : ∀ c x, PpAt w4 c x → PpAt w6 c x := fun c x hx => (hx.only m5.only hk5 (by decide)).only ho6 hk6 (by decide)
  refine ⟨by rw [HNA.out]; first | rfl | (rw [← hq]; rfl) | simp [hmo], ⟨⟨_, BO6, cs ++ [.slice (some ⟨g1, 0, none⟩) nk cz1, .slice (some ⟨g2, 0, none⟩) nv cz2], ?_, ?_⟩, BM6⟩, ?_⟩
  · rw [List.length_append, HNA.out, List.length_singleton]
    exact r5.only ho6 (fun g hg e => by
      subst e
      exact absurd ((own_typ r5 hg).uniq BO5.typ) (by decide))
  · exact (RR4.mono (fun c x _ hx => hmv c x hx)).snoc rfl (hmv _ _ PP4)
  · refine ⟨fun k => k = go ∨ (Value.slice A0 na cap0).ownBlock = some k, ?_, ?_, ?_⟩
    · have h1 : Only (fun k => k = go ∨ (Value.slice A0 na cap0).ownBlock = some k) w w4 := Only.of_below hb14 _
      exact (h1.trans' (m5.only.mono (fun _ _ e => .inr e))).trans' (ho6.mono (fun _ _ e => .inl e))
    · exact HKW.out
    · rintro k (rfl | hk)
      · exact HSZ.out.1
      · exact (World.ownsRow.lt R4 k hk).1
end Go.Proofs.YtljmklohgpaopaaGreatDoor
