/- The walks of the disk's Sectors, Dead, Read, changes, Write, Sync. A call that is guarded: what a panic with a fault makes of it. The walks of the log's read, slot, sector, own; of octets' Get of a text. The walks of the log's placed, Create, do, Sync. The walk of the reference's Extends. The walk of the reference's Attested. The walk of chain.Attested. The walks of daybook's and plain's Extends and Attested; of the harness's four. The walks of the log's Create, do, Sync, Reset. The walks of the log's Sync, Reset. The walks of the disk's New, Copy. -/
import Derived.Test.YtljmklohgpaopaaGreatDoorMgLean6
import Derived.Outline
import Derived.Test.YtljmklohgpaopaaGreatDoorMgLean5
import Derived.Defers
import Derived.Recover
import Derived.Laws.Pointers
import Derived.Deep.QuietTactic
import Derived.BigQuiet
import Derived.Deep.RegionHeld3
import Derived.LoopTactic
import Derived.Test.YtljmklohgpaopaaGreatDoorMgLean2
import Derived.Deep.RegionWith
import Derived.Lib.AppendStr
set_option linter.unusedVariables false
set_option linter.unusedSimpArgs false

namespace Go.Proofs.YtljmklohgpaopaaGreatDoor
open Go.RowKit

theorem sectors_any (g : Nat) (v : Value) (d : Pl.Dk) (rd : Int) (w : World) (h : DiskAt w g v d rd) :
    Calls Tryz.prog 49 #[.pointer (some ⟨g, 0, none⟩)] w fun e w' => e = .returned (.int .i64 (d.secs.length : Nat)) ∧ w = w' := by
  obtain ⟨wr, sy, hb⟩ := h.blk
  obtain ⟨A, cap, rfl, _⟩ := own_src h.own
  obtain ⟨c0, c1, c2, c3, c4, f0, f1, f2, f3, f4⟩ := facts5 hb
  clear h hb
  go_enter Tryz.func49, Tryz.ntmps49
  go_wp2_with fail
  go_ret
  exact ⟨rfl, rfl⟩

theorem dead_any (g : Nat) (v : Value) (d : Pl.Dk) (rd : Int) (w : World) (h : DiskAt w g v d rd) :
    Calls Tryz.prog 83 #[.pointer (some ⟨g, 0, none⟩)] w fun e w' => e = .returned (.bool (d.life == 0)) ∧ w = w' := by
  obtain ⟨wr, sy, hb⟩ := h.blk
  obtain ⟨c0, c1, c2, c3, c4, f0, f1, f2, f3, f4⟩ := facts5 hb
  clear h hb
  go_enter Tryz.func83, Tryz.ntmps83
  go_wp2_with fail
  go_ret
  exact ⟨rfl, rfl⟩

theorem changes_any (g : Nat) (v : Value) (d : Pl.Dk) (rd : Int) (w : World) (h : DiskAt w g v d rd) :
    Calls Tryz.prog 158 #[.pointer (some ⟨g, 0, none⟩)] w fun e w' => e = .returned (.bool d.alive) ∧ DiskAt w' g v d.tick rd ∧ Only (· = g) w w' := by
  obtain ⟨wr, sy, hb⟩ := h.blk
  obtain ⟨c0, c1, c2, c3, c4, f0, f1, f2, f3, f4⟩ := facts5 hb
  obtain ⟨secs, life⟩ := d
  have hlf := h.life
  simp only at hlf c1 hb
  have H := Lib.hid h
  have HB := Lib.hid hb
  clear h hb
  by_cases h0 : life = 0
  · subst h0
    go_enter Tryz.func158, Tryz.ntmps158
    go_wp2_with fail
    go_ret
    exact ⟨rfl, H.out, Only.refl _ _⟩
  · have q0 : (life == 0) = false := by simp [h0]
    by_cases h1 : 0 < life
    · have ht : Hid (Pl.Dk.tick ⟨secs, life⟩ = ⟨secs, life - 1⟩) := by rw [Hid]; unfold Pl.Dk.tick; rw [if_pos h1]
      have hw : IntKind.i64.wrap (life - 1) = life - 1 := IntWalk.i64_in _ (by omega)
      have hd := Only.setCell (Only.refl (· = g) w) (p := ⟨g, 1, none⟩) (.inl rfl) (.int .i64 (life - 1))
      have HD := Lib.hid hd
      have hal : Hid (Pl.Dk.alive ⟨secs, life⟩ = decide (0 < life - 1)) := by
        rw [Hid]; unfold Pl.Dk.alive
        by_cases h2 : 0 < life - 1
        · rw [decide_eq_true h2]; simp; omega
        · rw [decide_eq_false h2]; simp; omega
      have HL := Lib.hid hlf
      clear hd hw h0
      go_enter Tryz.func158, Tryz.ntmps158
      go_wp2_with fail
      go_ret
      rw [hal.out, ht.out]
      refine ⟨?_, H.out.ofHead HD.out _ _ wr sy (by have := HL.out; omega) (HB.out.set_ 1 _), HD.out⟩
      simp
      try omega
    · have ht : Hid (Pl.Dk.tick ⟨secs, life⟩ = ⟨secs, life⟩) := by rw [Hid]; unfold Pl.Dk.tick; rw [if_neg h1]
      have hal : Hid (Pl.Dk.alive ⟨secs, life⟩ = true) := by rw [Hid]; unfold Pl.Dk.alive; simp; omega
      clear h0
      go_enter Tryz.func158, Tryz.ntmps158
      go_wp2_with fail
      go_ret
      rw [hal.out, ht.out]
      exact ⟨rfl, H.out, Only.refl _ _⟩

/-- What a read brings: nothing, if the disk is dead or the sector broken. -/
def readOf (d : Pl.Dk) (i : Nat) : Option (List UInt8) := if d.life = 0 then none else d.look i
set_option maxHeartbeats 1000000 in
theorem read_any (g : Nat) (v : Value) (d : Pl.Dk) (rd : Int) (i : Nat) (w : World) (h : DiskAt w g v d rd) (hi : i < d.secs.length) :
    Calls Tryz.prog 131 #[.pointer (some ⟨g, 0, none⟩), .int .i64 (i : Nat)] w fun e w' => e = .returned (.tuple #[.string (tstr ((readOf d i).getD [])), .bool (readOf d i).isSome]) ∧
      (∃ rd', DiskAt w' g v d rd' ∧ (0 ≤ rd → rd < 4611686018427387904 → 0 ≤ rd' ∧ rd' ≤ rd + 1)) ∧ Only (· = g) w w' := by
  obtain ⟨wr, sy, hb⟩ := h.blk
  obtain ⟨s, hs⟩ : ∃ s, d.secs[i]? = some s := ⟨_, List.getElem?_eq_getElem hi⟩
  obtain ⟨b, cap, rfl, hbg, s0, s1, s2, s3, s4, sf⟩ := h.sec hs
  obtain ⟨c0, c1, c2, c3, c4, f0, f1, f2, f3, f4⟩ := facts5 hb
  obtain ⟨secs, life⟩ := d
  have hmost := h.most
  simp only at c1 hb hi hs c0 hmost
  have H := Lib.hid h
  have HB := Lib.hid hb
  have HS := Lib.hid hs
  clear h hb hs s1 s3 s4
  obtain ⟨n, hn⟩ : ∃ n, secs.length = n := ⟨_, rfl⟩
  rw [hn] at hi hmost c0
  have HN := Lib.hid hn
  have hni : ¬ (n : Int) ≤ i := by omega
  clear hn
  by_cases h0 : life = 0
  · subst h0
    go_enter Tryz.func131, Tryz.ntmps131
    go_wp2_with fail
    go_ret2
    exact ⟨by simp [readOf]; rfl, ⟨rd, H.out, fun h1 h2 => ⟨h1, by omega⟩⟩, Only.refl _ _⟩
  · have q0 : (life == 0) = false := by simp [h0]
    have HL := Lib.hid h0
    have hro : Hid (readOf ⟨secs, life⟩ i = if s.broken then none else some s.now) := by
      rw [Hid]; unfold readOf Pl.Dk.look; rw [if_neg h0]; simp only [HS.out]
    obtain ⟨rd', hrd, hrd2⟩ : ∃ rd', IntKind.i64.wrap (rd + 1) = rd' ∧ (0 ≤ rd → rd < 4611686018427387904 → 0 ≤ rd' ∧ rd' ≤ rd + 1) := ⟨_, rfl, fun h1 h2 => by rw [IntWalk.i64_in _ (by omega)]; omega⟩
    have HRD := Lib.hid hrd2
    have hd := fun x => Only.setCell (Only.refl (· = g) w) (p := ⟨g, 2, none⟩) (.inl rfl) (.int .i64 x)
    have HD := Lib.hid hd
    clear hd h0 hrd2
    rw [hro.out]
    cases hbr : s.broken
    all_goals
      rw [hbr] at s2
      clear hbr
      go_enter Tryz.func131, Tryz.ntmps131
      go_wp2_with fail
      go_ret2
      refine ⟨rfl, ⟨_, H.out.ofHead (HD.out _) _ _ wr sy H.out.life (HB.out.set_ 2 _), ?_⟩, HD.out _⟩
      exact fun h1 h2 => HRD.out h1 h2

/-- A text that is laid into a sector. -/
theorem put_sized (s : Pl.Sec) (t : List UInt8) (ht : t.length ≤ 256) (hs : s.safe.length = 256) : (s.put t).now.length = 256 ∧ (s.put t).safe.length = 256 := by
  refine ⟨?_, hs⟩
  simp [Pl.Sec.put, Pl.zeros]
  omega
theorem on_wr (l : List Pl.Sec) (i : Nat) (s : Pl.Sec) (t : List UInt8) (hs : l[i]? = some s) : Pl.Ch.on (.wr i t) l = l.set i (s.put t) := by
  simp only [Pl.Ch.on]
  apply List.ext_getElem?
  intro k
  rw [List.getElem?_modify, List.getElem?_set]
  by_cases h : i = k
  · subst h
    have hi : i < l.length := (List.getElem?_eq_some_iff.1 hs).1
    have he := (List.getElem?_eq_some_iff.1 hs).2
    simp [hi, he]
  · simp [h]
set_option maxHeartbeats 2000000 in
set_option maxRecDepth 100000 in
theorem dwrite_any (g : Nat) (v : Value) (d : Pl.Dk) (rd : Int) (i : Nat) (t : List UInt8) (w : World) (h : DiskAt w g v d rd) (hi : i < d.secs.length) (ht : t.length ≤ 256) :
    Calls Tryz.prog 125 #[.pointer (some ⟨g, 0, none⟩), .int .i64 (i : Nat), .string (tstr t)] w fun e w' => e = .returned (.bool d.alive) ∧ DiskAt w' g v (d.change (.wr i t)) rd ∧ Only (dF g v) w w' := by
  have hmost := h.most
  have htz := tstr_size t
  obtain ⟨z, hz⟩ : ∃ z, tstr t = z := ⟨_, rfl⟩
  have HZ := Lib.hid hz
  rw [hz] at htz ⊢
  have HH := Lib.hid h
  obtain ⟨n, hn⟩ : ∃ n, d.secs.length = n := ⟨_, rfl⟩
  rw [hn] at hi hmost
  have HN := Lib.hid hn
  have hni : ¬ (n : Int) ≤ i := by omega
  have htz' : ¬ (256 : Int) < (z.size : Int) := by omega
  have q1 : decide ((i : Int) < 0) = false := decide_eq_false (by omega)
  have q2 : decide ((n : Int) ≤ i) = false := decide_eq_false hni
  have q2' : decide (n ≤ i) = false := decide_eq_false (by omega)
  have q3 : decide ((256 : Int) < (z.size : Int)) = false := decide_eq_false htz'
  have HTZ := Lib.hid htz
  have HT := Lib.hid ht
  clear hz hn h htz
  go_enter Tryz.func125, Tryz.ntmps125
  go_wp2_with fail
  refine (changes_any g v d rd w HH.out).mono ?_
  rintro e w1 ⟨rfl, h1, ho1⟩
  have H1 := Lib.hid h1
  have O1 := Lib.hid ho1
  have htk : d.tick.secs = d.secs := rfl
  obtain ⟨s, hs⟩ : ∃ s, d.tick.secs[i]? = some s := ⟨_, List.getElem?_eq_getElem (by rw [htk, HN.out]; exact hi)⟩
  obtain ⟨b, cap, rfl, hbg, s0, s1, s2, s3, s4, sf⟩ := h1.sec hs
  obtain ⟨wr, sy, hb⟩ := h1.blk
  obtain ⟨c0, c1, c2, c3, c4, f0, f1, f2, f3, f4⟩ := facts5 hb
  have hlen : d.tick.secs.length = n := by rw [htk]; exact HN.out
  rw [hlen] at c0
  have HB := Lib.hid hb
  have HS := Lib.hid hs
  have HLEN := Lib.hid hlen
  have hk : ∀ (zs : Array Value) (X : Value), ((w1.setCell ⟨g, 3, none⟩ X).alloc (.cells zs 5)).ownsRow 0 104 5 (.slice (some ⟨b, 0, none⟩) n cap) n (secsCells d.tick.secs) := by
    intro zs X
    have := Only.own (((Only.refl (· = g) w1).setCell (p := ⟨g, 3, none⟩) (.inl rfl) X).alloc (.cells zs 5)) h1.own (fun k hk e => h1.far (by rw [hk, e]))
    rwa [hlen] at this
  have hk1 : ∀ (zs : Array Value) (X : Value), DiskAt ((w1.setCell ⟨g, 3, none⟩ X).alloc (.cells zs 5)) g (.slice (some ⟨b, 0, none⟩) d.tick.secs.length cap) d.tick rd ∨ True := fun _ _ => .inr trivial
  have HK := Lib.hid hk
  clear h1 ho1 hb hs htk hlen s0 s1 s2 s3 s4 sf hk hk1
  cases hal : d.alive
  · have hch : d.change (.wr i t) = d.tick := by unfold Pl.Dk.change; rw [hal]; rfl
    have HCH := Lib.hid hch
    have HAL := Lib.hid hal
    clear hal hch
    go_wp2_with fail
    go_ret
    rw [HCH.out, HAL.out]
    exact ⟨rfl, H1.out, O1.out.mono (fun _ _ h => .inl h)⟩
  · have hch : d.change (.wr i t) = ⟨d.tick.secs.set i (s.put t), d.tick.life⟩ := by unfold Pl.Dk.change; rw [hal, if_pos rfl, ← on_wr _ i s t HS.out]; rfl
    have HCH := Lib.hid hch
    have HAL := Lib.hid hal
    have hmk := make_bytes (256 - (z.size : Int)) (256 - t.length) (by have := HTZ.out; omega) (by omega)
    have hcv : ∀ X, (convert 25 9 (.slice (some ⟨w1.heap.size, 0, none⟩) (256 - t.length : Nat) (256 - t.length : Nat))).run Tryz.prog ((w1.setCell ⟨g, 3, none⟩ X).alloc (.cells (zrow (256 - t.length)).toArray 5)) =
        .ok (.string (tstr (Pl.zeros (256 - t.length)))) ((w1.setCell ⟨g, 3, none⟩ X).alloc (.cells (zrow (256 - t.length)).toArray 5)) := by
      intro X
      have := run_tostr ((w1.setCell ⟨g, 3, none⟩ X).alloc (.cells (zrow (256 - t.length)).toArray 5)) (some ⟨(w1.setCell ⟨g, 3, none⟩ X).heap.size, 0, none⟩) (List.replicate (256 - t.length) 0) (256 - t.length) (zeros_at _ _)
      rw [List.length_replicate, show (w1.setCell ⟨g, 3, none⟩ X).heap.size = w1.heap.size by simp [World.setCell]] at this
      exact this
    have hcat := fun w => run_cat w t (Pl.zeros (256 - t.length)) (by simp [Pl.zeros]; omega)
    obtain ⟨zs, hzs⟩ : ∃ zs, (zrow (256 - t.length)).toArray = zs := ⟨_, rfl⟩
    obtain ⟨zt, hzt⟩ : ∃ zt, tstr (Pl.zeros (256 - t.length)) = zt := ⟨_, rfl⟩
    obtain ⟨zz, hzz⟩ : ∃ zz, tstr (t ++ Pl.zeros (256 - t.length)) = zz := ⟨_, rfl⟩
    have HZZ := Lib.hid hzz
    obtain ⟨m, hm⟩ : ∃ m, 256 - t.length = m := ⟨_, rfl⟩
    rw [hzs] at hmk hcv
    rw [hzt] at hcv hcat
    rw [hzz, HZ.out] at hcat
    rw [hm] at hmk hcv
    have k0 := fun X => (own_sec (HK.out zs X) HLEN.out HS.out).1
    have k2 := fun X => (own_sec (HK.out zs X) HLEN.out HS.out).2.2.1
    have k4 := fun X => (own_sec (HK.out zs X) HLEN.out HS.out).2.2.2.2.1
    have kf := fun X => (own_sec (HK.out zs X) HLEN.out HS.out).2.2.2.2.2
    clear hal hch hzs hzt hzz hm
    go_wp2_with fail
    go_ret
    rw [HCH.out, HAL.out]
    have hW : DiskAt ((w1.setCell ⟨g, 3, none⟩ (.int .i64 (wrap64 (wr + 1)))).alloc (.cells zs 5)) g (.slice (some ⟨b, 0, none⟩) d.tick.secs.length cap) d.tick rd :=
      (H1.out.ofHead ((Only.refl (· = g) w1).setCell (p := ⟨g, 3, none⟩) (.inl rfl) _) d.tick.life rd _ sy H1.out.life (HB.out.set_ 3 _)).below ((Below.refl _ _).alloc (Nat.le_refl _) _)
    have hO : Only (dF g (.slice (some ⟨b, 0, none⟩) d.tick.secs.length cap)) w ((w1.setCell ⟨g, 3, none⟩ (.int .i64 (wrap64 (wr + 1)))).alloc (.cells zs 5)) :=
      ((O1.out.mono (fun _ _ h => .inl h)).setCell (p := ⟨g, 3, none⟩) (.inl (.inl rfl)) _).alloc _
    obtain ⟨r1, r2⟩ := hW.sets HS.out (s.put t) (put_sized s t HT.out (H1.out.sized s (List.mem_of_getElem? HS.out)).2) [(0, .string zz), (2, .bool false), (4, .bool true)] (by simp) (by rw [← HZZ.out]; rfl)
    have hl : (Value.slice (some ⟨b, 0, none⟩) (d.tick.secs.set i (s.put t)).length cap) = .slice (some ⟨b, 0, none⟩) d.tick.secs.length cap := by rw [List.length_set]
    exact ⟨rfl, r1, hO.trans r2 (fun k _ hk => .inr (by rw [hk]; rfl))⟩

theorem set_self {α : Type} {l : List α} {i : Nat} {x : α} (h : l[i]? = some x) : l.set i x = l := by
  apply List.ext_getElem?
  intro k
  rw [List.getElem?_set]
  by_cases hk : i = k
  · subst hk
    rw [if_pos rfl, if_pos (List.getElem?_eq_some_iff.1 h).1, h]
  · rw [if_neg hk]
theorem flush_sized (s : Pl.Sec) (h : s.now.length = 256 ∧ s.safe.length = 256) : s.flush.now.length = 256 ∧ s.flush.safe.length = 256 := by
  unfold Pl.Sec.flush
  split
  · exact ⟨h.1, h.1⟩
  · exact h
theorem flush_step (l : List Pl.Sec) (k : Nat) (s : Pl.Sec) (hs : l[k]? = some s) : ((l.take k).map Pl.Sec.flush ++ l.drop k)[k]? = some s ∧ ((l.take k).map Pl.Sec.flush ++ l.drop k).set k s.flush = (l.take (k + 1)).map Pl.Sec.flush ++ l.drop (k + 1) := by
  have hk : k < l.length := (List.getElem?_eq_some_iff.1 hs).1
  have he : l[k] = s := (List.getElem?_eq_some_iff.1 hs).2
  have hl : ((l.take k).map Pl.Sec.flush).length = k := by simp; omega
  constructor
  · rw [List.getElem?_append_right (by omega), hl, Nat.sub_self, List.drop_eq_getElem_cons hk, he]; rfl
  · rw [List.set_append_right _ _ (by omega), hl, Nat.sub_self, List.drop_eq_getElem_cons hk, he, List.set_cons_zero, List.take_succ_eq_append_getElem hk, he]
    simp

set_option maxHeartbeats 2000000 in
set_option maxRecDepth 100000 in
theorem dsync_any (g : Nat) (v : Value) (d : Pl.Dk) (rd : Int) (w : World) (h : DiskAt w g v d rd) :
    Calls Tryz.prog 126 #[.pointer (some ⟨g, 0, none⟩)] w fun e w' => e = .returned (.bool d.alive) ∧ DiskAt w' g v (d.change .sy) rd ∧ Only (dF g v) w w' := by
  have hmost := h.most
  have HH := Lib.hid h
  obtain ⟨n, hn⟩ : ∃ n, d.secs.length = n := ⟨_, rfl⟩
  rw [hn] at hmost
  have HN := Lib.hid hn
  clear hn h
  go_enter Tryz.func126, Tryz.ntmps126
  go_wp2_with fail
  refine (changes_any g v d rd w HH.out).mono ?_
  rintro e w1 ⟨rfl, h1, ho1⟩
  have H1 := Lib.hid h1
  have O1 := Lib.hid ho1
  obtain ⟨wr, sy, hb⟩ := h1.blk
  obtain ⟨A, cap, rfl, _, _, hAown⟩ := own_src h1.own
  have hlen : d.tick.secs.length = n := HN.out
  rw [hlen] at hb
  obtain ⟨c0, c1, c2, c3, c4, f0, f1, f2, f3, f4⟩ := facts5 hb
  have HB := Lib.hid hb
  have HLEN := Lib.hid hlen
  have htk : Hid (d.tick.secs = d.secs) := rfl
  have HA := Lib.hid hAown
  clear h1 ho1 hb hlen hAown
  cases hal : d.alive
  · have hch : d.change .sy = d.tick := by unfold Pl.Dk.change; rw [hal]; rfl
    have HCH := Lib.hid hch
    have HAL := Lib.hid hal
    clear hal hch
    go_wp2_with fail
    go_ret
    rw [HCH.out, HAL.out]
    exact ⟨rfl, H1.out, O1.out.mono (fun _ _ h => .inl h)⟩
  · have hch : d.change .sy = ⟨d.secs.map Pl.Sec.flush, d.tick.life⟩ := by unfold Pl.Dk.change; rw [hal, if_pos rfl]; rfl
    have HCH := Lib.hid hch
    have HAL := Lib.hid hal
    have hd2 : ∀ X : Int, DiskAt (w1.setCell ⟨g, 4, none⟩ (.int .i64 X)) g (.slice A d.tick.secs.length cap) ⟨d.secs, d.tick.life⟩ rd := fun X =>
      H1.out.ofHead ((Only.refl (· = g) w1).setCell (p := ⟨g, 4, none⟩) (.inl rfl) _) d.tick.life rd wr X H1.out.life (by rw [HLEN.out]; exact HB.out.set_ 4 _)
    have HD2 := Lib.hid hd2
    obtain ⟨lf, hlf⟩ : ∃ lf, d.tick.life = lf := ⟨_, rfl⟩
    have HLF := Lib.hid hlf
    clear hal hch hd2 hlf
    go_wp2_with fail
    go_loopw [4] (fun i W => ∃ k : Nat, k ≤ n ∧ i = .int .i64 (k : Int) ∧ Hid (DiskAt W g (.slice A d.tick.secs.length cap) ⟨(d.secs.take k).map Pl.Sec.flush ++ d.secs.drop k, lf⟩ rd) ∧ Hid (Only (dF g (.slice A d.tick.secs.length cap)) w W)) (fun i _ => n - (intOf i).toNat)
    case atStart => exact ⟨0, Nat.zero_le _, rfl, by rw [← HLF.out]; exact HD2.out _, (O1.out.mono (fun _ _ h => .inl h)).setCell (p := ⟨g, 4, none⟩) (.inl (.inl rfl)) _⟩
    case round =>
      obtain ⟨k, hk, rfl, HD, HO⟩ := hrel
      have hlk : ((d.secs.take k).map Pl.Sec.flush ++ d.secs.drop k).length = n := by rw [List.length_append, List.length_map, List.length_take, List.length_drop, HN.out]; omega
      have HLK := Lib.hid hlk
      clear hlk
      obtain ⟨wr', sy', hb'⟩ := HD.out.blk
      rw [HLEN.out] at hb'
      obtain ⟨e0, e1, e2, e3, e4, g0, g1, g2, g3, g4⟩ := facts5 hb'
      clear hb' e1 e2 e3 e4 g0 g1 g2 g3 g4
      by_cases hkn : k < n
      · obtain ⟨s, hs⟩ : ∃ s, d.secs[k]? = some s := ⟨_, List.getElem?_eq_getElem (by rw [HN.out]; exact hkn)⟩
        obtain ⟨hs1, hs2⟩ := flush_step d.secs k s hs
        obtain ⟨b, cap', hv, hbg, s0, s1, s2, s3, s4, sf⟩ := HD.out.sec hs1
        injection hv with hA1 hA2 hA3
        subst hA1
        subst hA3
        have HS1 := Lib.hid hs1
        have HS2 := Lib.hid hs2
        have hsz := Lib.hid (HH.out.sized s (List.mem_of_getElem? hs))
        clear hs hs1 hs2 hA2 s2
        cases hfr : s.fresh
        · rw [hfr] at s4
          have hfl : s.flush = s := by unfold Pl.Sec.flush; rw [hfr]; rfl
          have HFL := Lib.hid hfl
          clear hfl hfr
          go_wp2_with fail
          refine ⟨⟨k + 1, by omega, by go_num, ?_, HO.out⟩, by simp [intOf]; omega⟩
          rw [Hid, ← HS2.out, HFL.out, set_self HS1.out]
          exact HD.out
        · rw [hfr] at s4
          have hfl : s.flush = ⟨s.now, s.now, s.broken, false, false⟩ := by unfold Pl.Sec.flush; rw [hfr, if_pos rfl]
          have HFL := Lib.hid hfl
          clear hfl hfr
          go_wp2_with fail
          have HD3 := HD.out
          have hln : d.tick.secs.length = ((d.secs.take k).map Pl.Sec.flush ++ d.secs.drop k).length := by rw [HLK.out, HLEN.out]
          rw [hln] at HD3
          have he : [(1, Value.string (tstr s.now)), (3, Value.bool false), (4, Value.bool false)].foldl (fun xs p => xs.set p.1 p.2) (secCells s) = secCells s.flush := by rw [HFL.out]; rfl
          obtain ⟨r1, r2⟩ := DiskAt.sets (d := ⟨(d.secs.take k).map Pl.Sec.flush ++ d.secs.drop k, lf⟩) (i := k) (s := s) HD3 HS1.out s.flush (flush_sized s hsz.out) _ (by simp) he
          refine ⟨⟨k + 1, by omega, by go_num, ?_, HO.out.trans r2 (fun k _ hk => .inr (by rw [hk]; rfl))⟩, by simp [intOf]; omega⟩
          rw [HS2.out, ← hln] at r1
          exact r1
      · obtain rfl : k = n := by omega
        go_wp2_with fail
        go_ret
        rw [HCH.out, HAL.out, HLF.out]
        refine ⟨rfl, ?_, HO.out⟩
        have := HD.out
        rw [← HN.out, List.take_length, List.drop_length, List.append_nil] at this
        exact this
end Go.Proofs.YtljmklohgpaopaaGreatDoor

namespace Go.Proofs.YtljmklohgpaopaaGreatDoor
open Go.RowKit

def kindE (k : Nat) : Value := .iface 26 (.int .i64 (k : Int))
end Go.Proofs.YtljmklohgpaopaaGreatDoor

namespace Go.Proofs.YtljmklohgpaopaaGreatDoor
open Go.RowKit

set_option maxHeartbeats 1000000 in
theorem getS_any (l : List UInt8) (w : World) (hl : l.length ≤ 8) :
    Calls Tryz.prog 86 #[.string (tstr l)] w fun e w' => e = .returned (.int .u64 (Pl.num l : Nat)) ∧ w = w' := by
  obtain ⟨s, hs⟩ : ∃ s, tstr l = s := ⟨_, rfl⟩
  have hsz : s.size = l.length := by rw [← hs, tstr_size]
  have hget : ∀ (k : Nat) (h : k < l.length) (h' : k < s.size), s[k] = l[k] := by
    intro k h h'
    subst hs
    rfl
  have HG := Lib.hid hget
  rw [hs]
  have hsi : (s.size : Int) = l.length := by omega
  have HSZ := Lib.hid hsz
  clear hs hget hsz
  go_enter Tryz.func86, Tryz.ntmps86
  go_wp2_with fail
  go_loop [3, 7] (fun v i => ∃ k : Nat, k ≤ l.length ∧ i = .int .i64 k ∧ v = .int .u64 (Pl.num (l.take k) : Nat)) (fun _ i => l.length - (intOf i).toNat)
  case atStart => exact ⟨0, Nat.zero_le _, rfl, rfl⟩
  case round =>
    obtain ⟨k, hk, rfl, rfl⟩ := hrel
    by_cases hlt : k < l.length
    · have hlt' : k < s.size := by rw [HSZ.out]; exact hlt
      have hn1 := Pl.num_take_lt l k
      have hn2 : Pl.num (l.take k) < 72057594037927936 := Nat.lt_of_lt_of_le hn1 (Nat.pow_le_pow_right (n := 256) (j := 7) (by decide) (by omega))
      have hc := l[k].toNat_lt
      have hnext : Hid (Pl.num (l.take (k + 1)) = 256 * Pl.num (l.take k) + l[k].toNat) := by rw [Hid, take_snoc l k hlt, Pl.num_snoc]
      obtain ⟨c, hcc⟩ : ∃ c, s[k] = c := ⟨_, rfl⟩
      have hcl : l[k].toNat = c.toNat := by rw [← hcc, HG.out k hlt hlt']
      obtain ⟨v, hv⟩ : ∃ v, Pl.num (l.take k) = v := ⟨_, rfl⟩
      have hnext' : Hid (Pl.num (l.take (k + 1)) = 256 * v + c.toNat) := by rw [← hv, ← hcl]; exact hnext
      have hc8 := c.toNat_lt
      rw [hv] at hn2 ⊢
      clear hn1 hnext hv hcl hc
      go_wp2_with fail
      refine ⟨⟨k + 1, by omega, by simp, ?_⟩, by simp [intOf]; omega⟩
      rw [hnext'.out, or_byte v c.toNat hn2 (by omega)]
    · obtain rfl : k = l.length := by omega
      rw [List.take_length]
      go_wp2_with fail
      go_ret
      exact ⟨rfl, rfl⟩

def Rds (rd rd' : Int) : Prop := 0 ≤ rd → rd < 4611686018427387904 → 0 ≤ rd' ∧ rd' ≤ rd + 1

end Go.Proofs.YtljmklohgpaopaaGreatDoor

namespace Go.Proofs.YtljmklohgpaopaaGreatDoor
open Go.RowKit

namespace Pl
end Pl

theorem Blk.uniqT {w : World} {g : Nat} {t t' : TypeId} {cs cs' : List Value} (h : Blk w g t cs) (h' : Blk w g t' cs') : t = t' := by
  unfold Blk at h h'
  rw [h] at h'
  injection h' with h'
  injection h' with _ h'
theorem own_type {w : World} {base size n g : Nat} {e t : TypeId} {v : Value} {xs cs : List Value} (h : w.ownsRow base e size v n xs) (hv : v.ownBlock = some g) (hb : Blk w g t cs) : t = e := by
  rcases h.2 with ⟨rfl, _⟩ | ⟨g', cap, cur, rfl, _, hg, _⟩
  · cases hv
  · have : g' = g := by simpa [Value.ownBlock] using hv
    subst this
    unfold Blk at hb
    rw [hb] at hg
    injection hg with hg
    injection hg with _ hg
theorem DiskAt.off {w : World} {g b : Nat} {v : Value} {d : Pl.Dk} {rd : Int} {t : TypeId} {cs : List Value} (h : DiskAt w g v d rd) (hb : Blk w b t cs) (h1 : t ≠ 102) (h2 : t ≠ 104) : ¬ dF g v b := by
  obtain ⟨wr, sy, hg⟩ := h.blk
  rintro (rfl | hv)
  · exact h1 (hb.uniqT hg)
  · exact h2 (own_type h.own hv hb)
end Go.Proofs.YtljmklohgpaopaaGreatDoor

namespace Go.Proofs.YtljmklohgpaopaaGreatDoor
open Go.RowKit

end Go.Proofs.YtljmklohgpaopaaGreatDoor

namespace Go.Proofs.YtljmklohgpaopaaGreatDoor
open Go.RowKit

def RefPost (w : World) (l : List UInt8) (more : Int) (g : Nat) (e : Ending) (w' : World) : Prop :=
  ∃ txt ok, e = .returned (.tuple #[.string (tstr txt), .bool ok]) ∧ (ok = true → Pl.attested l more g = some txt) ∧ (ok = false → Pl.attested l more g = none) ∧ Below w.heap.size w w'
theorem RefPost.no {w w' : World} {l : List UInt8} {more : Int} {g : Nat} (h : Pl.attested l more g = none) (hb : Below w.heap.size w w') : RefPost w l more g (.returned (.tuple #[.string ⟨#[]⟩, .bool false])) w' :=
  ⟨[], false, rfl, fun h => (by cases h), fun _ => h, hb⟩
end Go.Proofs.YtljmklohgpaopaaGreatDoor

namespace Go.Proofs.YtljmklohgpaopaaGreatDoor
open Go.RowKit

def AttPost (w : World) (l : List UInt8) (more : Int) (g : Nat) (e : Ending) (w' : World) : Prop :=
  ∃ v txt ok, e = .returned (.tuple #[v, .bool ok]) ∧ (ok = true → Pl.attested l more g = some txt ∧ w'.ownsRow w.heap.size 5 1 v txt.length (bv txt)) ∧ (ok = false → Pl.attested l more g = none) ∧ Below w.heap.size w w'
theorem AttPost.no {w w' : World} {l : List UInt8} {more : Int} {g : Nat} {v : Value} (h : Pl.attested l more g = none) (hb : Below w.heap.size w w') : AttPost w l more g (.returned (.tuple #[v, .bool false])) w' :=
  ⟨v, [], false, rfl, fun h => (by cases h), fun _ => h, hb⟩

end Go.Proofs.YtljmklohgpaopaaGreatDoor

namespace Go.Proofs.YtljmklohgpaopaaGreatDoor
open Go.RowKit

theorem results_err1 {fn : Func} {t : Tmp} {tmps : Array Value} {w : World} {g : Nat} {k : Int} {u : ByteArray} (h : fn.results = #[.cell t 28]) (ht : tmps.getD t undef = .pointer (some ⟨g, 0, none⟩)) (hB : Blk w g 28 [.int .i64 k, .string u, .bool true]) :
    (results fn tmps).run Tryz.prog w = .ok (errA k u) w := by
  have c0 := hB.cell 0
  have c1 := hB.cell 1
  have c2 := hB.cell 2
  simp only [List.getElem?_cons_succ, List.getElem?_cons_zero] at c0 c1 c2
  simp only [Array.getD_eq_getD_getElem?] at ht
  simp [results, h, ht, go_sem, c0, c1, c2, errA, asAddr]

theorem own_low {w : World} {base base' n size : Nat} {e : TypeId} {v : Value} {xs : List Value} (h : w.ownsRow base e size v n xs) (hb : base' ≤ base) : w.ownsRow base' e size v n xs := by
  refine ⟨h.1, ?_⟩
  rcases h.2 with hn | ⟨g, cap, cur, hv, hg, rest⟩
  · exact .inl hn
  · exact .inr ⟨g, cap, cur, hv, Nat.le_trans hb hg, rest⟩
end Go.Proofs.YtljmklohgpaopaaGreatDoor

namespace Go.Proofs.YtljmklohgpaopaaGreatDoor
open Go.RowKit

/-- The error of a kind (0: none). -/
def errK (k : Nat) : Value := if k = 0 then .nilIface else kindE k
theorem errK_err (w : World) (k : Nat) : ErrV w (errK k) k ⟨#[]⟩ := by
  unfold errK
  split
  · next h => subst h; exact ErrV.nil w
  · exact ErrV.kind w k
/-- What a log's cells and its row are. -/
structure RowsAt (w : World) (va : Value) (vs : List Value) (ls : List (List UInt8)) : Prop where
  own : w.ownsRow 0 25 1 va ls.length vs
  each : ∀ (k : Nat) (v : Value) (l : List UInt8), vs[k]? = some v → ls[k]? = some l → w.ownsRow 0 5 1 v l.length (bv l)

end Go.Proofs.YtljmklohgpaopaaGreatDoor

namespace Go.Proofs.YtljmklohgpaopaaGreatDoor
open Go.RowKit

/-- Block k holds cells of this element type. -/
def Typ (w : World) (k : Nat) (t : TypeId) : Prop := ∃ cs fz, w.heap[k]? = some (.cells cs t fz)
theorem Typ.uniq {w : World} {k : Nat} {t t' : TypeId} (h : Typ w k t) (h' : Typ w k t') : t = t' := by
  obtain ⟨cs, fz, h⟩ := h
  obtain ⟨cs', fz', h'⟩ := h'
  rw [h] at h'
  injection h' with h'
  injection h' with _ h'
theorem Blk.typ {w : World} {k : Nat} {t : TypeId} {cs : List Value} (h : Blk w k t cs) : Typ w k t := ⟨_, _, h⟩
theorem Blk.ne {w : World} {a b : Nat} {t t' : TypeId} {cs cs' : List Value} (h : Blk w a t cs) (h' : Blk w b t' cs') (ht : t ≠ t') : a ≠ b := by
  rintro rfl
  exact ht (h.uniqT h')
theorem own_typ {w : World} {base size n g : Nat} {e : TypeId} {v : Value} {xs : List Value} (h : w.ownsRow base e size v n xs) (hv : v.ownBlock = some g) : Typ w g e := by
  rcases h.2 with ⟨rfl, _⟩ | ⟨g', cap, cur, rfl, _, hg, _⟩
  · cases hv
  · have : g' = g := by simpa [Value.ownBlock] using hv
    subst this
    exact ⟨_, _, hg⟩
/-- The blocks of F are of these types. -/
def Kinds (F : Nat → Prop) (w : World) (ts : List TypeId) : Prop := ∀ k, F k → ∃ t, t ∈ ts ∧ Typ w k t
theorem DiskAt.kinds {w : World} {g : Nat} {v : Value} {d : Pl.Dk} {rd : Int} (h : DiskAt w g v d rd) : Kinds (dF g v) w [102, 104] := by
  obtain ⟨wr, sy, hg⟩ := h.blk
  rintro k (rfl | hk)
  · exact ⟨_, by simp, hg.typ⟩
  · exact ⟨_, by simp, own_typ h.own hk⟩
theorem Only.blk_ {F : Nat → Prop} {w w' : World} {k : Nat} {t : TypeId} {cs : List Value} {ts : List TypeId} (ho : Only F w w') (hF : Kinds F w ts) (h : Blk w k t cs) (ht : t ∉ ts) : Blk w' k t cs :=
  ho.blk h (fun hk => by obtain ⟨t', h1, h2⟩ := hF k hk; exact ht (h.typ.uniq h2 ▸ h1))
theorem Only.own_ {F : Nat → Prop} {w w' : World} {base n size : Nat} {e : TypeId} {v : Value} {xs : List Value} {ts : List TypeId} (ho : Only F w w') (hF : Kinds F w ts) (h : w.ownsRow base e size v n xs) (ht : e ∉ ts) : w'.ownsRow base e size v n xs :=
  ho.own h (fun g hg hk => by obtain ⟨t', h1, h2⟩ := hF g hk; exact ht ((own_typ h hg).uniq h2 ▸ h1))
theorem RowsAt.only {F : Nat → Prop} {w w' : World} {va : Value} {vs : List Value} {ls : List (List UInt8)} {ts : List TypeId} (h : RowsAt w va vs ls) (ho : Only F w w') (hF : Kinds F w ts) (h1 : 25 ∉ ts) (h2 : 5 ∉ ts) : RowsAt w' va vs ls :=
  ⟨ho.own_ hF h.own h1, fun k v l hv hl => ho.own_ hF (h.each k v l hv hl) h2⟩
theorem facts1 {w : World} {g : Nat} {t : TypeId} {a0 : Value} (h : Blk w g t [a0]) : w.cell? ⟨g, 0, none⟩ = some a0 ∧ w.frozen? ⟨g, 0, none⟩ = false := ⟨h.cell 0, h.frozen 0⟩

end Go.Proofs.YtljmklohgpaopaaGreatDoor

namespace Go.Proofs.YtljmklohgpaopaaGreatDoor
open Go.RowKit

theorem Tryz.infoSector : (Tryz.prog.info? 104).map (fun i => (i.zero, i.size, i.bytes)) = some (some (.agg #[.string ⟨#[]⟩, .string ⟨#[]⟩, .bool false, .bool false, .bool false]), 5, 40) := by kernel_rfl
theorem sector_room {n m : Nat} (h : n + m ≤ 4398046511104) : ∀ old, old < n + m → Builtin.nextslicecap (n + m) old * 40 ≤ 281474976710656 := by
  intro old ho
  have := nextslicecap_le54 ho
  omega
theorem secsCells_one (l : List Pl.Sec) : ∀ u ∈ secsCells l, u.oneCell' = true := by
  intro u hu
  unfold secsCells at hu
  rw [List.mem_flatMap] at hu
  obtain ⟨s, _, hs⟩ := hu
  simp only [secCells, List.mem_cons, List.not_mem_nil, or_false] at hs
  rcases hs with rfl | rfl | rfl | rfl | rfl <;> rfl

set_option maxHeartbeats 1000000 in
set_option maxRecDepth 100000 in
theorem copy_any (g : Nat) (v : Value) (d : Pl.Dk) (rd : Int) (w : World) (h : DiskAt w g v d rd) :
    Calls Tryz.prog 24 #[.pointer (some ⟨g, 0, none⟩)] w fun e w' => ∃ g' v', e = .returned (.pointer (some ⟨g', 0, none⟩)) ∧ DiskAt w' g' v' d rd ∧ Below w.heap.size w w' ∧ ∀ k, dF g' v' k → w.heap.size ≤ k := by
  have hm := h.most
  obtain ⟨wr, sy, hb⟩ := h.blk
  obtain ⟨c0, c1, c2, c3, c4, f0, f1, f2, f3, f4⟩ := facts5 hb
  obtain ⟨A, cap, rfl, hc, hs, _⟩ := own_src h.own
  have H := Lib.hid h
  obtain ⟨i0, hi, hz0, hz1, hz2⟩ := info_parts Tryz.infoSector
  have HI := Lib.hid (And.intro hi (And.intro hz0 (And.intro hz1 hz2)))
  obtain ⟨w1, hw1⟩ : ∃ w1, w.alloc (.cells #[.slice A d.secs.length cap, .int .i64 d.life, .int .i64 rd, .int .i64 wr, .int .i64 sy] 102) = w1 := ⟨_, rfl⟩
  have hb1 : Below w.heap.size w w1 := by rw [← hw1]; exact (Below.refl _ _).alloc (Nat.le_refl _) _
  have B1 : Blk w1 w.heap.size 102 [.slice A d.secs.length cap, .int .i64 d.life, .int .i64 rd, .int .i64 wr, .int .i64 sy] := by rw [← hw1]; exact Blk.new w 102 _
  obtain ⟨k0, _, _, _, _, _⟩ := facts5 (hb.below hb1 hb.lt)
  obtain ⟨e0, e1, e2, e3, e4, q0, q1, q2, q3, q4⟩ := facts5 B1
  have HB1 := Lib.hid hb1
  have HBK := Lib.hid B1
  have HS1 := Lib.hid (hs.below hb1)
  have h63 : Hid (0 + d.secs.length ≤ maxLen) := by rw [Hid]; simp only [maxLen]; omega
  have hroom := Lib.hid (sector_room (n := 0) (m := d.secs.length) (by omega))
  have hs1 := hb1.size
  clear h hi hz0 hz1 hz2 hb hs hb1 B1
  go_enter Tryz.func24, Tryz.ntmps24
  go_wp2_with (at_builtin
               refine wpList_append_src _ rfl (.const (.slice none 0 0)) (.tmp 10) 100 rfl w1.heap.size 104 i0 _ 5 40 Tryz.underlying100 HI.out.1 HI.out.2.1 HI.out.2.2.1 HI.out.2.2.2 rfl (by decide) (.slice none 0 0) 0 [] rfl (World.ownsRow_nil _ _ _ _) A d.secs.length cap (secsCells d.secs) rfl (secsCells_length _) HS1.out (secsCells_one _) h63.out hroom.out (Nat.le_refl _) ?_
               intro v2 w2 hown2 hgrow2 hat2
               rw [Nat.zero_add, List.nil_append] at hown2
               obtain ⟨A2, cap2, rfl, _, _, _⟩ := own_src hown2
               have hb2 : Below w1.heap.size w1 w2 := ⟨hgrow2.os, hgrow2.tape, hgrow2.output, hgrow2.size, fun x hx => hgrow2.block x hx (fun e => by cases e)⟩
               have HB2 := Lib.hid hb2
               have HO2 := Lib.hid hown2
               have HBK2 := Lib.hid (HBK.out.below hb2 HBK.out.lt)
               obtain ⟨x0, _, _, _, _, y0, _, _, _, _⟩ := facts5 HBK2.out
               clear hown2 hgrow2 hat2 hb2)
  go_ret
  have hlt : w.heap.size < w1.heap.size := HBK.out.lt
  have hfar : ∀ x, (Value.slice A2 d.secs.length cap2).ownBlock = some x → w1.heap.size ≤ x := fun x hx => (HO2.out.lt x hx).1
  have hne : ∀ x, (Value.slice A2 d.secs.length cap2).ownBlock = some x → x ≠ w.heap.size := fun x hx => by have := hfar x hx; omega
  refine ⟨w.heap.size, _, rfl, ⟨hm, H.out.sized, H.out.life, fun e => hne _ e rfl, ?_, wr, sy, HBK2.out.set_ 0 _⟩, (HB1.out.trans (HB2.out.mono hs1)).setCell (p := ⟨w.heap.size, 0, none⟩) (Nat.le_refl _) _, ?_⟩
  · exact Only.own ((Only.refl (· = w.heap.size) w2).setCell (p := ⟨w.heap.size, 0, none⟩) (.inl rfl) _) (own_low HO2.out (Nat.zero_le _)) (fun k hk e => hne k hk e)
  · rintro k (rfl | hk)
    · exact Nat.le_refl _
    · exact Nat.le_trans hs1 (hfar k hk)

theorem new_secs (m : Nat) : secsCells (List.replicate (m + 1) Pl.Sec.empty) = secsCells (List.replicate m Pl.Sec.empty) ++ secCells Pl.Sec.empty := by
  rw [List.replicate_succ', secsCells_append]
  simp [secsCells]
theorem most_le (n : Int) : Pl.most n ≤ 4096 := by
  unfold Pl.most
  by_cases h : n < 0
  · rw [if_pos h]; omega
  · rw [if_neg h]
    by_cases h' : 4096 < n
    · rw [if_pos h']; omega
    · rw [if_neg h']; omega
/-- A disk that is being made. -/
structure NewAt (w : World) (g : Nat) (v : Value) (k : Nat) : Prop where
  far : v.ownBlock ≠ some g
  own : w.ownsRow (g + 1) 104 5 v k (secsCells (List.replicate k Pl.Sec.empty))
  blk : Blk w g 102 [v, .int .i64 (-1), .int .i64 0, .int .i64 0, .int .i64 0]

set_option maxHeartbeats 2000000 in
set_option maxRecDepth 100000 in
theorem new_any (n : Int) (w : World) :
    Calls Tryz.prog 17 #[.int .i64 n] w fun e w' => ∃ v', e = .returned (.pointer (some ⟨w.heap.size, 0, none⟩)) ∧ DiskAt w' w.heap.size v' (Pl.Dk.new n) 0 ∧ Below w.heap.size w w' ∧ ∀ k, dF w.heap.size v' k → w.heap.size ≤ k := by
  have hmk := make_bytes 256 256 (by omega) (by omega)
  obtain ⟨w1, hw1⟩ : ∃ w1, w.alloc (.cells #[.slice none 0 0, .int .i64 (-1), .int .i64 0, .int .i64 0, .int .i64 0] 102) = w1 := ⟨_, rfl⟩
  have hb1 : Below w.heap.size w w1 := by rw [← hw1]; exact (Below.refl _ _).alloc (Nat.le_refl _) _
  have B1 : Blk w1 w.heap.size 102 [.slice none 0 0, .int .i64 (-1), .int .i64 0, .int .i64 0, .int .i64 0] := by rw [← hw1]; exact Blk.new w 102 _
  have hsz1 : w1.heap.size = w.heap.size + 1 := by rw [← hw1]; simp
  have HB1 := Lib.hid hb1
  have HBK := Lib.hid B1
  obtain ⟨w2, hw2⟩ : ∃ w2, w1.alloc (.cells (zrow 256).toArray 5) = w2 := ⟨_, rfl⟩
  have hb2 : Below w1.heap.size w1 w2 := by rw [← hw2]; exact (Below.refl _ _).alloc (Nat.le_refl _) _
  have hcv : (convert 25 9 (.slice (some ⟨w1.heap.size, 0, none⟩) 256 256)).run Tryz.prog w2 = .ok (.string (tstr (Pl.zeros 256))) w2 := by
    rw [← hw2]
    have := run_tostr (w1.alloc (.cells (zrow 256).toArray 5)) (some ⟨w1.heap.size, 0, none⟩) (List.replicate 256 0) 256 (zeros_at _ _)
    rw [List.length_replicate] at this
    exact this
  have HB2 := Lib.hid hb2
  have hs2 := hb2.size
  obtain ⟨Z, hZ⟩ : ∃ Z, tstr (Pl.zeros 256) = Z := ⟨_, rfl⟩
  rw [hZ, hsz1] at hcv
  have HZ := Lib.hid hZ
  obtain ⟨i0, hi, hz0, hz1, hz2⟩ := info_parts Tryz.infoSector
  have HI := Lib.hid (And.intro hi (And.intro hz0 (And.intro hz1 hz2)))
  clear hi hz0 hz1 hz2 hb1 hb2 B1 hZ
  by_cases h1 : n < 0
  · have HM : Hid (Pl.most n = 0) := by unfold Pl.most; rw [Hid, if_pos h1]
    go_enter Tryz.func17, Tryz.ntmps17
    go_wp2_with fail
    go_loopw [5] (fun i W => ∃ (k : Nat) (v : Value), k ≤ 0 ∧ i = .int .i64 (k : Int) ∧ Hid (NewAt W w.heap.size v k) ∧ Hid (Below w.heap.size w W)) (fun i _ => 0 - (intOf i).toNat)
    case atStart =>
      refine ⟨0, .slice none 0 0, Nat.zero_le _, rfl, ⟨(fun e => by cases e), World.ownsRow_nil _ _ _ _, HBK.out.below HB2.out HBK.out.lt⟩, HB1.out.trans (HB2.out.mono HB1.out.size)⟩
    case round =>
      obtain ⟨k, v, hk, rfl, HN, HB⟩ := hrel
      obtain ⟨A, cap, rfl, _, _, _⟩ := own_src HN.out.own
      obtain ⟨c0, c1, c2, c3, c4, f0, f1, f2, f3, f4⟩ := facts5 HN.out.blk
      have hgl := HN.out.blk.lt
      by_cases hkm : k < 0
      · exact absurd hkm (by omega)
      · obtain rfl : k = 0 := by omega
        go_wp2_with fail
        go_ret
        refine ⟨_, rfl, ⟨?_, fun s hs => ?_, ⟨by show (-1 : Int) ≤ -1; omega, by show (-1 : Int) ≤ 9223372036854775807; omega⟩, HN.out.far, ?_, 0, 0, HN.out.blk⟩, HB.out, fun y hy => ?_⟩
        · show (List.replicate _ _).length ≤ 4096
          rw [List.length_replicate]
          exact most_le _
        · have : s = Pl.Sec.empty := List.eq_of_mem_replicate hs
          rw [this]
          exact ⟨by simp [Pl.Sec.empty, Pl.zeros], by simp [Pl.Sec.empty, Pl.zeros]⟩
        · show World.ownsRow _ 0 _ 5 _ (List.replicate _ _).length (secsCells (List.replicate _ _))
          rw [HM.out, List.length_replicate]
          exact own_low HN.out.own (Nat.zero_le _)
        · rcases hy with rfl | hy
          · exact Nat.le_refl _
          · have := (HN.out.own.lt y hy).1
            omega
  · by_cases h2 : 4096 < n
    · have HM : Hid (Pl.most n = 4096) := by unfold Pl.most; rw [Hid, if_neg h1, if_pos h2]
      go_enter Tryz.func17, Tryz.ntmps17
      go_wp2_with fail
      go_loopw [5] (fun i W => ∃ (k : Nat) (v : Value), k ≤ 4096 ∧ i = .int .i64 (k : Int) ∧ Hid (NewAt W w.heap.size v k) ∧ Hid (Below w.heap.size w W)) (fun i _ => 4096 - (intOf i).toNat)
      case atStart =>
        refine ⟨0, .slice none 0 0, Nat.zero_le _, rfl, ⟨(fun e => by cases e), World.ownsRow_nil _ _ _ _, HBK.out.below HB2.out HBK.out.lt⟩, HB1.out.trans (HB2.out.mono HB1.out.size)⟩
      case round =>
        obtain ⟨k, v, hk, rfl, HN, HB⟩ := hrel
        obtain ⟨A, cap, rfl, _, _, _⟩ := own_src HN.out.own
        obtain ⟨c0, c1, c2, c3, c4, f0, f1, f2, f3, f4⟩ := facts5 HN.out.blk
        have hgl := HN.out.blk.lt
        by_cases hkm : k < 4096
        · have h63 : Hid (k + 1 ≤ maxLen) := by rw [Hid]; simp only [maxLen]; omega
          have hroom := Lib.hid (sector_room (n := k) (m := 1) (by omega))
          clear c1 c2 c3 c4 f1 f2 f3 f4
          go_wp2_with (at_builtin
                       obtain ⟨w3, hw3⟩ : ∃ w3, wr.alloc (.cells #[.string Z, .string Z, .bool false, .bool false, .bool false] 104) = w3 := ⟨_, rfl⟩
                       have hb3 : Below wr.heap.size wr w3 := by rw [← hw3]; exact (Below.refl _ _).alloc (Nat.le_refl _) _
                       have HSR3 : Hid (Src w3 (some ⟨wr.heap.size, 0, none⟩) (secCells Pl.Sec.empty)) := by
                         rw [Hid, ← hw3]
                         have : secCells Pl.Sec.empty = [.string Z, .string Z, .bool false, .bool false, .bool false] := by rw [← HZ.out]; rfl
                         rw [this]
                         exact Src.of_blk (Blk.new wr 104 _)
                       have HB3 := Lib.hid hb3
                       have hs3 := hb3.size
                       rw [hw3]
                       clear hb3 hw3
                       refine wpList_append_src _ rfl (.tmp 23) (.tmp 27) 100 rfl (w.heap.size + 1) 104 i0 _ 5 40 Tryz.underlying100 HI.out.1 HI.out.2.1 HI.out.2.2.1 HI.out.2.2.2 rfl (by decide) (.slice A k cap) k (secsCells (List.replicate k Pl.Sec.empty)) rfl (own_below HN.out.own HB3.out) (some ⟨wr.heap.size, 0, none⟩) 1 1 (secCells Pl.Sec.empty) rfl rfl HSR3.out (by intro u hu; exact secsCells_one [Pl.Sec.empty] u (by simpa [secsCells] using hu)) h63.out hroom.out (by omega) ?_
                       intro v4 w4 hown4 hgrow4 hat4
                       have hbk4 := (HN.out.blk.below HB3.out HN.out.blk.lt).grown hgrow4 (fun e => HN.out.far e.symm)
                       have hown5 : w4.ownsRow (w.heap.size + 1) 104 5 v4 (k + 1) (secsCells (List.replicate (k + 1) Pl.Sec.empty)) := by rw [new_secs]; exact hown4
                       have HBK4 := Lib.hid hbk4
                       have HO4 := Lib.hid hown5
                       have HB4 : Hid (Below w.heap.size w w4) := (HB.out.trans (HB3.out.mono HB.out.size)).grown hgrow4 (by omega) (fun y hy => by have := (HN.out.own.lt y hy).1; omega)
                       obtain ⟨x0, _, _, _, _, y0, _, _, _, _⟩ := facts5 hbk4
                       obtain ⟨A4, cap4, rfl, _, _, _⟩ := own_src hown4
                       clear hown4 hgrow4 hat4 hbk4 hown5)
          have hfar : ∀ x, (Value.slice A4 (k + 1) cap4).ownBlock = some x → x ≠ w.heap.size := fun x hx => by have := (HO4.out.lt x hx).1; omega
          refine ⟨⟨k + 1, .slice A4 (k + 1) cap4, by omega, by go_num, ⟨fun e => hfar _ e rfl, ?_, HBK4.out.set_ 0 _⟩, HB4.out.setCell (p := ⟨w.heap.size, 0, none⟩) (Nat.le_refl _) _⟩, by simp [intOf]; omega⟩
          exact Only.own ((Only.refl (· = w.heap.size) w4).setCell (p := ⟨w.heap.size, 0, none⟩) (.inl rfl) _) HO4.out (fun y hy e => hfar y hy e)
        · obtain rfl : k = 4096 := by omega
          go_wp2_with fail
          go_ret
          refine ⟨_, rfl, ⟨?_, fun s hs => ?_, ⟨by show (-1 : Int) ≤ -1; omega, by show (-1 : Int) ≤ 9223372036854775807; omega⟩, HN.out.far, ?_, 0, 0, HN.out.blk⟩, HB.out, fun y hy => ?_⟩
          · show (List.replicate _ _).length ≤ 4096
            rw [List.length_replicate]
            exact most_le _
          · have : s = Pl.Sec.empty := List.eq_of_mem_replicate hs
            rw [this]
            exact ⟨by simp [Pl.Sec.empty, Pl.zeros], by simp [Pl.Sec.empty, Pl.zeros]⟩
          · show World.ownsRow _ 0 _ 5 _ (List.replicate _ _).length (secsCells (List.replicate _ _))
            rw [HM.out, List.length_replicate]
            exact own_low HN.out.own (Nat.zero_le _)
          · rcases hy with rfl | hy
            · exact Nat.le_refl _
            · have := (HN.out.own.lt y hy).1
              omega
    · obtain ⟨m, rfl⟩ : ∃ m : Nat, n = m := ⟨n.toNat, by omega⟩
      have HM : Hid (Pl.most (m : Int) = m) := by unfold Pl.most; rw [Hid, if_neg h1, if_neg h2]; omega
      go_enter Tryz.func17, Tryz.ntmps17
      go_wp2_with fail
      go_loopw [5] (fun i W => ∃ (k : Nat) (v : Value), k ≤ m ∧ i = .int .i64 (k : Int) ∧ Hid (NewAt W w.heap.size v k) ∧ Hid (Below w.heap.size w W)) (fun i _ => m - (intOf i).toNat)
      case atStart =>
        refine ⟨0, .slice none 0 0, Nat.zero_le _, rfl, ⟨(fun e => by cases e), World.ownsRow_nil _ _ _ _, HBK.out.below HB2.out HBK.out.lt⟩, HB1.out.trans (HB2.out.mono HB1.out.size)⟩
      case round =>
        obtain ⟨k, v, hk, rfl, HN, HB⟩ := hrel
        obtain ⟨A, cap, rfl, _, _, _⟩ := own_src HN.out.own
        obtain ⟨c0, c1, c2, c3, c4, f0, f1, f2, f3, f4⟩ := facts5 HN.out.blk
        have hgl := HN.out.blk.lt
        by_cases hkm : k < m
        · have h63 : Hid (k + 1 ≤ maxLen) := by rw [Hid]; simp only [maxLen]; omega
          have hroom := Lib.hid (sector_room (n := k) (m := 1) (by omega))
          clear c1 c2 c3 c4 f1 f2 f3 f4
          go_wp2_with (at_builtin
                       obtain ⟨w3, hw3⟩ : ∃ w3, wr.alloc (.cells #[.string Z, .string Z, .bool false, .bool false, .bool false] 104) = w3 := ⟨_, rfl⟩
                       have hb3 : Below wr.heap.size wr w3 := by rw [← hw3]; exact (Below.refl _ _).alloc (Nat.le_refl _) _
                       have HSR3 : Hid (Src w3 (some ⟨wr.heap.size, 0, none⟩) (secCells Pl.Sec.empty)) := by
                         rw [Hid, ← hw3]
                         have : secCells Pl.Sec.empty = [.string Z, .string Z, .bool false, .bool false, .bool false] := by rw [← HZ.out]; rfl
                         rw [this]
                         exact Src.of_blk (Blk.new wr 104 _)
                       have HB3 := Lib.hid hb3
                       have hs3 := hb3.size
                       rw [hw3]
                       clear hb3 hw3
                       refine wpList_append_src _ rfl (.tmp 23) (.tmp 27) 100 rfl (w.heap.size + 1) 104 i0 _ 5 40 Tryz.underlying100 HI.out.1 HI.out.2.1 HI.out.2.2.1 HI.out.2.2.2 rfl (by decide) (.slice A k cap) k (secsCells (List.replicate k Pl.Sec.empty)) rfl (own_below HN.out.own HB3.out) (some ⟨wr.heap.size, 0, none⟩) 1 1 (secCells Pl.Sec.empty) rfl rfl HSR3.out (by intro u hu; exact secsCells_one [Pl.Sec.empty] u (by simpa [secsCells] using hu)) h63.out hroom.out (by omega) ?_
                       intro v4 w4 hown4 hgrow4 hat4
                       have hbk4 := (HN.out.blk.below HB3.out HN.out.blk.lt).grown hgrow4 (fun e => HN.out.far e.symm)
                       have hown5 : w4.ownsRow (w.heap.size + 1) 104 5 v4 (k + 1) (secsCells (List.replicate (k + 1) Pl.Sec.empty)) := by rw [new_secs]; exact hown4
                       have HBK4 := Lib.hid hbk4
                       have HO4 := Lib.hid hown5
                       have HB4 : Hid (Below w.heap.size w w4) := (HB.out.trans (HB3.out.mono HB.out.size)).grown hgrow4 (by omega) (fun y hy => by have := (HN.out.own.lt y hy).1; omega)
                       obtain ⟨x0, _, _, _, _, y0, _, _, _, _⟩ := facts5 hbk4
                       obtain ⟨A4, cap4, rfl, _, _, _⟩ := own_src hown4
                       clear hown4 hgrow4 hat4 hbk4 hown5)
          have hfar : ∀ x, (Value.slice A4 (k + 1) cap4).ownBlock = some x → x ≠ w.heap.size := fun x hx => by have := (HO4.out.lt x hx).1; omega
          refine ⟨⟨k + 1, .slice A4 (k + 1) cap4, by omega, by go_num, ⟨fun e => hfar _ e rfl, ?_, HBK4.out.set_ 0 _⟩, HB4.out.setCell (p := ⟨w.heap.size, 0, none⟩) (Nat.le_refl _) _⟩, by simp [intOf]; omega⟩
          exact Only.own ((Only.refl (· = w.heap.size) w4).setCell (p := ⟨w.heap.size, 0, none⟩) (.inl rfl) _) HO4.out (fun y hy e => hfar y hy e)
        · obtain rfl : k = m := by omega
          go_wp2_with fail
          go_ret
          refine ⟨_, rfl, ⟨?_, fun s hs => ?_, ⟨by show (-1 : Int) ≤ -1; omega, by show (-1 : Int) ≤ 9223372036854775807; omega⟩, HN.out.far, ?_, 0, 0, HN.out.blk⟩, HB.out, fun y hy => ?_⟩
          · show (List.replicate _ _).length ≤ 4096
            rw [List.length_replicate]
            exact most_le _
          · have : s = Pl.Sec.empty := List.eq_of_mem_replicate hs
            rw [this]
            exact ⟨by simp [Pl.Sec.empty, Pl.zeros], by simp [Pl.Sec.empty, Pl.zeros]⟩
          · show World.ownsRow _ 0 _ 5 _ (List.replicate _ _).length (secsCells (List.replicate _ _))
            rw [HM.out, List.length_replicate]
            exact own_low HN.out.own (Nat.zero_le _)
          · rcases hy with rfl | hy
            · exact Nat.le_refl _
            · have := (HN.out.own.lt y hy).1
              omega
end Go.Proofs.YtljmklohgpaopaaGreatDoor
