/- The walks of the disk's Sectors, Dead, Read, changes, Write, Sync. A call that is guarded: what a panic with a fault makes of it. The walks of the log's read, slot, sector, own; of octets' Get of a text. -/
import Derived.Test.YtljmklohgpaopaaDoorMgLogged3
import Derived.Outline
import Derived.Test.YtljmklohgpaopaaDoorMgLogged2
import Derived.Defers
import Derived.Recover
import Derived.Laws.Pointers
import Derived.Deep.QuietTactic
import Derived.BigQuiet
set_option linter.unusedVariables false
set_option linter.unusedSimpArgs false

namespace Go.Proofs.YtljmklohgpaopaaDoor
open Go.RowKit

theorem sectors_any (g : Nat) (v : Value) (d : Pl.Dk) (rd : Int) (w : World) (h : DiskAt w g v d rd) :
    Calls Tryd.prog 37 #[.pointer (some ⟨g, 0, none⟩)] w fun e w' => e = .returned (.int .i64 (d.secs.length : Nat)) ∧ w = w' := by
  obtain ⟨wr, sy, hb⟩ := h.blk
  obtain ⟨A, cap, rfl, _⟩ := own_src h.own
  obtain ⟨c0, c1, c2, c3, c4, f0, f1, f2, f3, f4⟩ := facts5 hb
  clear h hb
  go_enter Tryd.func37, Tryd.ntmps37
  go_wp2_with fail
  go_ret
  exact ⟨rfl, rfl⟩

theorem dead_any (g : Nat) (v : Value) (d : Pl.Dk) (rd : Int) (w : World) (h : DiskAt w g v d rd) :
    Calls Tryd.prog 61 #[.pointer (some ⟨g, 0, none⟩)] w fun e w' => e = .returned (.bool (d.life == 0)) ∧ w = w' := by
  obtain ⟨wr, sy, hb⟩ := h.blk
  obtain ⟨c0, c1, c2, c3, c4, f0, f1, f2, f3, f4⟩ := facts5 hb
  clear h hb
  go_enter Tryd.func61, Tryd.ntmps61
  go_wp2_with fail
  go_ret
  exact ⟨rfl, rfl⟩

theorem changes_any (g : Nat) (v : Value) (d : Pl.Dk) (rd : Int) (w : World) (h : DiskAt w g v d rd) :
    Calls Tryd.prog 108 #[.pointer (some ⟨g, 0, none⟩)] w fun e w' => e = .returned (.bool d.alive) ∧ DiskAt w' g v d.tick rd ∧ Only (· = g) w w' := by
  obtain ⟨wr, sy, hb⟩ := h.blk
  obtain ⟨c0, c1, c2, c3, c4, f0, f1, f2, f3, f4⟩ := facts5 hb
  obtain ⟨secs, life⟩ := d
  have hlf := h.life
  simp only at hlf c1 hb
  have H := Lib.hid h
  have HB := Lib.hid hb
  clear h hb
  by_cases h0 : life = 0
  · subst h0
    go_enter Tryd.func108, Tryd.ntmps108
    go_wp2_with fail
    go_ret
    exact ⟨rfl, H.out, Only.refl _ _⟩
  · have q0 : (life == 0) = false := by simp [h0]
    by_cases h1 : 0 < life
    · have ht : Hid (Pl.Dk.tick ⟨secs, life⟩ = ⟨secs, life - 1⟩) := by rw [Hid]; unfold Pl.Dk.tick; rw [if_pos h1]
      have hw : IntKind.i64.wrap (life - 1) = life - 1 := IntWalk.i64_in _ (by omega)
      have hd := Only.setCell (Only.refl (· = g) w) (p := ⟨g, 1, none⟩) (.inl rfl) (.int .i64 (life - 1))
      have HD := Lib.hid hd
      have hal : Hid (Pl.Dk.alive ⟨secs, life⟩ = decide (0 < life - 1)) := by
        rw [Hid]; unfold Pl.Dk.alive
        by_cases h2 : 0 < life - 1
        · rw [decide_eq_true h2]; simp; omega
        · rw [decide_eq_false h2]; simp; omega
      have HL := Lib.hid hlf
      clear hd hw h0
      go_enter Tryd.func108, Tryd.ntmps108
      go_wp2_with fail
      go_ret
      rw [hal.out, ht.out]
      refine ⟨?_, H.out.ofHead HD.out _ _ wr sy (by have := HL.out; omega) (HB.out.set_ 1 _), HD.out⟩
      simp
      try omega
    · have ht : Hid (Pl.Dk.tick ⟨secs, life⟩ = ⟨secs, life⟩) := by rw [Hid]; unfold Pl.Dk.tick; rw [if_neg h1]
      have hal : Hid (Pl.Dk.alive ⟨secs, life⟩ = true) := by rw [Hid]; unfold Pl.Dk.alive; simp; omega
      clear h0
      go_enter Tryd.func108, Tryd.ntmps108
      go_wp2_with fail
      go_ret
      rw [hal.out, ht.out]
      exact ⟨rfl, H.out, Only.refl _ _⟩

/-- What a read brings: nothing, if the disk is dead or the sector broken. -/
def readOf (d : Pl.Dk) (i : Nat) : Option (List UInt8) := if d.life = 0 then none else d.look i
set_option maxHeartbeats 1000000 in
theorem read_any (g : Nat) (v : Value) (d : Pl.Dk) (rd : Int) (i : Nat) (w : World) (h : DiskAt w g v d rd) (hi : i < d.secs.length) :
    Calls Tryd.prog 89 #[.pointer (some ⟨g, 0, none⟩), .int .i64 (i : Nat)] w fun e w' => e = .returned (.tuple #[.string (tstr ((readOf d i).getD [])), .bool (readOf d i).isSome]) ∧
      (∃ rd', DiskAt w' g v d rd' ∧ (0 ≤ rd → rd < 4611686018427387904 → 0 ≤ rd' ∧ rd' ≤ rd + 1)) ∧ Only (· = g) w w' := by
  obtain ⟨wr, sy, hb⟩ := h.blk
  obtain ⟨s, hs⟩ : ∃ s, d.secs[i]? = some s := ⟨_, List.getElem?_eq_getElem hi⟩
  obtain ⟨b, cap, rfl, hbg, s0, s1, s2, s3, s4, sf⟩ := h.sec hs
  obtain ⟨c0, c1, c2, c3, c4, f0, f1, f2, f3, f4⟩ := facts5 hb
  obtain ⟨secs, life⟩ := d
  have hmost := h.most
  simp only at c1 hb hi hs c0 hmost
  have H := Lib.hid h
  have HB := Lib.hid hb
  have HS := Lib.hid hs
  clear h hb hs s1 s3 s4
  obtain ⟨n, hn⟩ : ∃ n, secs.length = n := ⟨_, rfl⟩
  rw [hn] at hi hmost c0
  have HN := Lib.hid hn
  have hni : ¬ (n : Int) ≤ i := by omega
  clear hn
  by_cases h0 : life = 0
  · subst h0
    go_enter Tryd.func89, Tryd.ntmps89
    go_wp2_with fail
    go_ret2
    exact ⟨by simp [readOf]; rfl, ⟨rd, H.out, fun h1 h2 => ⟨h1, by omega⟩⟩, Only.refl _ _⟩
  · have q0 : (life == 0) = false := by simp [h0]
    have HL := Lib.hid h0
    have hro : Hid (readOf ⟨secs, life⟩ i = if s.broken then none else some s.now) := by
      rw [Hid]; unfold readOf Pl.Dk.look; rw [if_neg h0]; simp only [HS.out]
    obtain ⟨rd', hrd, hrd2⟩ : ∃ rd', IntKind.i64.wrap (rd + 1) = rd' ∧ (0 ≤ rd → rd < 4611686018427387904 → 0 ≤ rd' ∧ rd' ≤ rd + 1) := ⟨_, rfl, fun h1 h2 => by rw [IntWalk.i64_in _ (by omega)]; omega⟩
    have HRD := Lib.hid hrd2
    have hd := fun x => Only.setCell (Only.refl (· = g) w) (p := ⟨g, 2, none⟩) (.inl rfl) (.int .i64 x)
    have HD := Lib.hid hd
    clear hd h0 hrd2
    rw [hro.out]
    cases hbr : s.broken
    all_goals
      rw [hbr] at s2
      clear hbr
      go_enter Tryd.func89, Tryd.ntmps89
      go_wp2_with fail
      go_ret2
      refine ⟨rfl, ⟨_, H.out.ofHead (HD.out _) _ _ wr sy H.out.life (HB.out.set_ 2 _), ?_⟩, HD.out _⟩
      exact fun h1 h2 => HRD.out h1 h2

/-- A text that is laid into a sector. -/
theorem put_sized (s : Pl.Sec) (t : List UInt8) (ht : t.length ≤ 256) (hs : s.safe.length = 256) : (s.put t).now.length = 256 ∧ (s.put t).safe.length = 256 := by
  refine ⟨?_, hs⟩
  simp [Pl.Sec.put, Pl.zeros]
  omega
theorem on_wr (l : List Pl.Sec) (i : Nat) (s : Pl.Sec) (t : List UInt8) (hs : l[i]? = some s) : Pl.Ch.on (.wr i t) l = l.set i (s.put t) := by
  simp only [Pl.Ch.on]
  apply List.ext_getElem?
  intro k
  rw [List.getElem?_modify, List.getElem?_set]
  by_cases h : i = k
  · subst h
    have hi : i < l.length := (List.getElem?_eq_some_iff.1 hs).1
    have he := (List.getElem?_eq_some_iff.1 hs).2
    simp [hi, he]
  · simp [h]
set_option maxHeartbeats 2000000 in
set_option maxRecDepth 100000 in
theorem dwrite_any (g : Nat) (v : Value) (d : Pl.Dk) (rd : Int) (i : Nat) (t : List UInt8) (w : World) (h : DiskAt w g v d rd) (hi : i < d.secs.length) (ht : t.length ≤ 256) :
    Calls Tryd.prog 92 #[.pointer (some ⟨g, 0, none⟩), .int .i64 (i : Nat), .string (tstr t)] w fun e w' => e = .returned (.bool d.alive) ∧ DiskAt w' g v (d.change (.wr i t)) rd ∧ Only (dF g v) w w' := by
  have hmost := h.most
  have htz := tstr_size t
  obtain ⟨z, hz⟩ : ∃ z, tstr t = z := ⟨_, rfl⟩
  have HZ := Lib.hid hz
  rw [hz] at htz ⊢
  have HH := Lib.hid h
  obtain ⟨n, hn⟩ : ∃ n, d.secs.length = n := ⟨_, rfl⟩
  rw [hn] at hi hmost
  have HN := Lib.hid hn
  have hni : ¬ (n : Int) ≤ i := by omega
  have htz' : ¬ (256 : Int) < (z.size : Int) := by omega
  have q1 : decide ((i : Int) < 0) = false := decide_eq_false (by omega)
  have q2 : decide ((n : Int) ≤ i) = false := decide_eq_false hni
  have q2' : decide (n ≤ i) = false := decide_eq_false (by omega)
  have q3 : decide ((256 : Int) < (z.size : Int)) = false := decide_eq_false htz'
  have HTZ := Lib.hid htz
  have HT := Lib.hid ht
  clear hz hn h htz
  go_enter Tryd.func92, Tryd.ntmps92
  go_wp2_with fail
  refine (changes_any g v d rd w HH.out).mono ?_
  rintro e w1 ⟨rfl, h1, ho1⟩
  have H1 := Lib.hid h1
  have O1 := Lib.hid ho1
  have htk : d.tick.secs = d.secs := rfl
  obtain ⟨s, hs⟩ : ∃ s, d.tick.secs[i]? = some s := ⟨_, List.getElem?_eq_getElem (by rw [htk, HN.out]; exact hi)⟩
  obtain ⟨b, cap, rfl, hbg, s0, s1, s2, s3, s4, sf⟩ := h1.sec hs
  obtain ⟨wr, sy, hb⟩ := h1.blk
  obtain ⟨c0, c1, c2, c3, c4, f0, f1, f2, f3, f4⟩ := facts5 hb
  have hlen : d.tick.secs.length = n := by rw [htk]; exact HN.out
  rw [hlen] at c0
  have HB := Lib.hid hb
  have HS := Lib.hid hs
  have HLEN := Lib.hid hlen
  have hk : ∀ (zs : Array Value) (X : Value), ((w1.setCell ⟨g, 3, none⟩ X).alloc (.cells zs 5)).ownsRow 0 92 5 (.slice (some ⟨b, 0, none⟩) n cap) n (secsCells d.tick.secs) := by
    intro zs X
    have := Only.own (((Only.refl (· = g) w1).setCell (p := ⟨g, 3, none⟩) (.inl rfl) X).alloc (.cells zs 5)) h1.own (fun k hk e => h1.far (by rw [hk, e]))
    rwa [hlen] at this
  have hk1 : ∀ (zs : Array Value) (X : Value), DiskAt ((w1.setCell ⟨g, 3, none⟩ X).alloc (.cells zs 5)) g (.slice (some ⟨b, 0, none⟩) d.tick.secs.length cap) d.tick rd ∨ True := fun _ _ => .inr trivial
  have HK := Lib.hid hk
  clear h1 ho1 hb hs htk hlen s0 s1 s2 s3 s4 sf hk hk1
  cases hal : d.alive
  · have hch : d.change (.wr i t) = d.tick := by unfold Pl.Dk.change; rw [hal]; rfl
    have HCH := Lib.hid hch
    have HAL := Lib.hid hal
    clear hal hch
    go_wp2_with fail
    go_ret
    rw [HCH.out, HAL.out]
    exact ⟨rfl, H1.out, O1.out.mono (fun _ _ h => .inl h)⟩
  · have hch : d.change (.wr i t) = ⟨d.tick.secs.set i (s.put t), d.tick.life⟩ := by unfold Pl.Dk.change; rw [hal, if_pos rfl, ← on_wr _ i s t HS.out]; rfl
    have HCH := Lib.hid hch
    have HAL := Lib.hid hal
    have hmk := make_bytes (256 - (z.size : Int)) (256 - t.length) (by have := HTZ.out; omega) (by omega)
    have hcv : ∀ X, (convert 23 9 (.slice (some ⟨w1.heap.size, 0, none⟩) (256 - t.length : Nat) (256 - t.length : Nat))).run Tryd.prog ((w1.setCell ⟨g, 3, none⟩ X).alloc (.cells (zrow (256 - t.length)).toArray 5)) =
        .ok (.string (tstr (Pl.zeros (256 - t.length)))) ((w1.setCell ⟨g, 3, none⟩ X).alloc (.cells (zrow (256 - t.length)).toArray 5)) := by
      intro X
      have := run_tostr ((w1.setCell ⟨g, 3, none⟩ X).alloc (.cells (zrow (256 - t.length)).toArray 5)) (some ⟨(w1.setCell ⟨g, 3, none⟩ X).heap.size, 0, none⟩) (List.replicate (256 - t.length) 0) (256 - t.length) (zeros_at _ _)
      rw [List.length_replicate, show (w1.setCell ⟨g, 3, none⟩ X).heap.size = w1.heap.size by simp [World.setCell]] at this
      exact this
    have hcat := fun w => run_cat w t (Pl.zeros (256 - t.length)) (by simp [Pl.zeros]; omega)
    obtain ⟨zs, hzs⟩ : ∃ zs, (zrow (256 - t.length)).toArray = zs := ⟨_, rfl⟩
    obtain ⟨zt, hzt⟩ : ∃ zt, tstr (Pl.zeros (256 - t.length)) = zt := ⟨_, rfl⟩
    obtain ⟨zz, hzz⟩ : ∃ zz, tstr (t ++ Pl.zeros (256 - t.length)) = zz := ⟨_, rfl⟩
    have HZZ := Lib.hid hzz
    obtain ⟨m, hm⟩ : ∃ m, 256 - t.length = m := ⟨_, rfl⟩
    rw [hzs] at hmk hcv
    rw [hzt] at hcv hcat
    rw [hzz, HZ.out] at hcat
    rw [hm] at hmk hcv
    have k0 := fun X => (own_sec (HK.out zs X) HLEN.out HS.out).1
    have k2 := fun X => (own_sec (HK.out zs X) HLEN.out HS.out).2.2.1
    have k4 := fun X => (own_sec (HK.out zs X) HLEN.out HS.out).2.2.2.2.1
    have kf := fun X => (own_sec (HK.out zs X) HLEN.out HS.out).2.2.2.2.2
    clear hal hch hzs hzt hzz hm
    go_wp2_with fail
    go_ret
    rw [HCH.out, HAL.out]
    have hW : DiskAt ((w1.setCell ⟨g, 3, none⟩ (.int .i64 (wrap64 (wr + 1)))).alloc (.cells zs 5)) g (.slice (some ⟨b, 0, none⟩) d.tick.secs.length cap) d.tick rd :=
      (H1.out.ofHead ((Only.refl (· = g) w1).setCell (p := ⟨g, 3, none⟩) (.inl rfl) _) d.tick.life rd _ sy H1.out.life (HB.out.set_ 3 _)).below ((Below.refl _ _).alloc (Nat.le_refl _) _)
    have hO : Only (dF g (.slice (some ⟨b, 0, none⟩) d.tick.secs.length cap)) w ((w1.setCell ⟨g, 3, none⟩ (.int .i64 (wrap64 (wr + 1)))).alloc (.cells zs 5)) :=
      ((O1.out.mono (fun _ _ h => .inl h)).setCell (p := ⟨g, 3, none⟩) (.inl (.inl rfl)) _).alloc _
    obtain ⟨r1, r2⟩ := hW.sets HS.out (s.put t) (put_sized s t HT.out (H1.out.sized s (List.mem_of_getElem? HS.out)).2) [(0, .string zz), (2, .bool false), (4, .bool true)] (by simp) (by rw [← HZZ.out]; rfl)
    have hl : (Value.slice (some ⟨b, 0, none⟩) (d.tick.secs.set i (s.put t)).length cap) = .slice (some ⟨b, 0, none⟩) d.tick.secs.length cap := by rw [List.length_set]
    exact ⟨rfl, r1, hO.trans r2 (fun k _ hk => .inr (by rw [hk]; rfl))⟩

theorem set_self {α : Type} {l : List α} {i : Nat} {x : α} (h : l[i]? = some x) : l.set i x = l := by
  apply List.ext_getElem?
  intro k
  rw [List.getElem?_set]
  by_cases hk : i = k
  · subst hk
    rw [if_pos rfl, if_pos (List.getElem?_eq_some_iff.1 h).1, h]
  · rw [if_neg hk]
theorem flush_sized (s : Pl.Sec) (h : s.now.length = 256 ∧ s.safe.length = 256) : s.flush.now.length = 256 ∧ s.flush.safe.length = 256 := by
  unfold Pl.Sec.flush
  split
  · exact ⟨h.1, h.1⟩
  · exact h
theorem flush_step (l : List Pl.Sec) (k : Nat) (s : Pl.Sec) (hs : l[k]? = some s) : ((l.take k).map Pl.Sec.flush ++ l.drop k)[k]? = some s ∧ ((l.take k).map Pl.Sec.flush ++ l.drop k).set k s.flush = (l.take (k + 1)).map Pl.Sec.flush ++ l.drop (k + 1) := by
  have hk : k < l.length := (List.getElem?_eq_some_iff.1 hs).1
  have he : l[k] = s := (List.getElem?_eq_some_iff.1 hs).2
  have hl : ((l.take k).map Pl.Sec.flush).length = k := by simp; omega
  constructor
  · rw [List.getElem?_append_right (by omega), hl, Nat.sub_self, List.drop_eq_getElem_cons hk, he]; rfl
  · rw [List.set_append_right _ _ (by omega), hl, Nat.sub_self, List.drop_eq_getElem_cons hk, he, List.set_cons_zero, List.take_succ_eq_append_getElem hk, he]
    simp

set_option maxHeartbeats 2000000 in
set_option maxRecDepth 100000 in
theorem dsync_any (g : Nat) (v : Value) (d : Pl.Dk) (rd : Int) (w : World) (h : DiskAt w g v d rd) :
    Calls Tryd.prog 93 #[.pointer (some ⟨g, 0, none⟩)] w fun e w' => e = .returned (.bool d.alive) ∧ DiskAt w' g v (d.change .sy) rd ∧ Only (dF g v) w w' := by
  have hmost := h.most
  have HH := Lib.hid h
  obtain ⟨n, hn⟩ : ∃ n, d.secs.length = n := ⟨_, rfl⟩
  rw [hn] at hmost
  have HN := Lib.hid hn
  clear hn h
  go_enter Tryd.func93, Tryd.ntmps93
  go_wp2_with fail
  refine (changes_any g v d rd w HH.out).mono ?_
  rintro e w1 ⟨rfl, h1, ho1⟩
  have H1 := Lib.hid h1
  have O1 := Lib.hid ho1
  obtain ⟨wr, sy, hb⟩ := h1.blk
  obtain ⟨A, cap, rfl, _, _, hAown⟩ := own_src h1.own
  have hlen : d.tick.secs.length = n := HN.out
  rw [hlen] at hb
  obtain ⟨c0, c1, c2, c3, c4, f0, f1, f2, f3, f4⟩ := facts5 hb
  have HB := Lib.hid hb
  have HLEN := Lib.hid hlen
  have htk : Hid (d.tick.secs = d.secs) := rfl
  have HA := Lib.hid hAown
  clear h1 ho1 hb hlen hAown
  cases hal : d.alive
  · have hch : d.change .sy = d.tick := by unfold Pl.Dk.change; rw [hal]; rfl
    have HCH := Lib.hid hch
    have HAL := Lib.hid hal
    clear hal hch
    go_wp2_with fail
    go_ret
    rw [HCH.out, HAL.out]
    exact ⟨rfl, H1.out, O1.out.mono (fun _ _ h => .inl h)⟩
  · have hch : d.change .sy = ⟨d.secs.map Pl.Sec.flush, d.tick.life⟩ := by unfold Pl.Dk.change; rw [hal, if_pos rfl]; rfl
    have HCH := Lib.hid hch
    have HAL := Lib.hid hal
    have hd2 : ∀ X : Int, DiskAt (w1.setCell ⟨g, 4, none⟩ (.int .i64 X)) g (.slice A d.tick.secs.length cap) ⟨d.secs, d.tick.life⟩ rd := fun X =>
      H1.out.ofHead ((Only.refl (· = g) w1).setCell (p := ⟨g, 4, none⟩) (.inl rfl) _) d.tick.life rd wr X H1.out.life (by rw [HLEN.out]; exact HB.out.set_ 4 _)
    have HD2 := Lib.hid hd2
    obtain ⟨lf, hlf⟩ : ∃ lf, d.tick.life = lf := ⟨_, rfl⟩
    have HLF := Lib.hid hlf
    clear hal hch hd2 hlf
    go_wp2_with fail
    go_loopw [4] (fun i W => ∃ k : Nat, k ≤ n ∧ i = .int .i64 (k : Int) ∧ Hid (DiskAt W g (.slice A d.tick.secs.length cap) ⟨(d.secs.take k).map Pl.Sec.flush ++ d.secs.drop k, lf⟩ rd) ∧ Hid (Only (dF g (.slice A d.tick.secs.length cap)) w W)) (fun i _ => n - (intOf i).toNat)
    case atStart => exact ⟨0, Nat.zero_le _, rfl, by rw [← HLF.out]; exact HD2.out _, (O1.out.mono (fun _ _ h => .inl h)).setCell (p := ⟨g, 4, none⟩) (.inl (.inl rfl)) _⟩
    case round =>
      obtain ⟨k, hk, rfl, HD, HO⟩ := hrel
      have hlk : ((d.secs.take k).map Pl.Sec.flush ++ d.secs.drop k).length = n := by rw [List.length_append, List.length_map, List.length_take, List.length_drop, HN.out]; omega
      have HLK := Lib.hid hlk
      clear hlk
      obtain ⟨wr', sy', hb'⟩ := HD.out.blk
      rw [HLEN.out] at hb'
      obtain ⟨e0, e1, e2, e3, e4, g0, g1, g2, g3, g4⟩ := facts5 hb'
      clear hb' e1 e2 e3 e4 g0 g1 g2 g3 g4
      by_cases hkn : k < n
      · obtain ⟨s, hs⟩ : ∃ s, d.secs[k]? = some s := ⟨_, List.getElem?_eq_getElem (by rw [HN.out]; exact hkn)⟩
        obtain ⟨hs1, hs2⟩ := flush_step d.secs k s hs
        obtain ⟨b, cap', hv, hbg, s0, s1, s2, s3, s4, sf⟩ := HD.out.sec hs1
        injection hv with hA1 hA2 hA3
        subst hA1
        subst hA3
        have HS1 := Lib.hid hs1
        have HS2 := Lib.hid hs2
        have hsz := Lib.hid (HH.out.sized s (List.mem_of_getElem? hs))
        clear hs hs1 hs2 hA2 s2
        cases hfr : s.fresh
        · rw [hfr] at s4
          have hfl : s.flush = s := by unfold Pl.Sec.flush; rw [hfr]; rfl
          have HFL := Lib.hid hfl
          clear hfl hfr
          go_wp2_with fail
          refine ⟨⟨k + 1, by omega, by go_num, ?_, HO.out⟩, by simp [intOf]; omega⟩
          rw [Hid, ← HS2.out, HFL.out, set_self HS1.out]
          exact HD.out
        · rw [hfr] at s4
          have hfl : s.flush = ⟨s.now, s.now, s.broken, false, false⟩ := by unfold Pl.Sec.flush; rw [hfr, if_pos rfl]
          have HFL := Lib.hid hfl
          clear hfl hfr
          go_wp2_with fail
          have HD3 := HD.out
          have hln : d.tick.secs.length = ((d.secs.take k).map Pl.Sec.flush ++ d.secs.drop k).length := by rw [HLK.out, HLEN.out]
          rw [hln] at HD3
          have he : [(1, Value.string (tstr s.now)), (3, Value.bool false), (4, Value.bool false)].foldl (fun xs p => xs.set p.1 p.2) (secCells s) = secCells s.flush := by rw [HFL.out]; rfl
          obtain ⟨r1, r2⟩ := DiskAt.sets (d := ⟨(d.secs.take k).map Pl.Sec.flush ++ d.secs.drop k, lf⟩) (i := k) (s := s) HD3 HS1.out s.flush (flush_sized s hsz.out) _ (by simp) he
          refine ⟨⟨k + 1, by omega, by go_num, ?_, HO.out.trans r2 (fun k _ hk => .inr (by rw [hk]; rfl))⟩, by simp [intOf]; omega⟩
          rw [HS2.out, ← hln] at r1
          exact r1
      · obtain rfl : k = n := by omega
        go_wp2_with fail
        go_ret
        rw [HCH.out, HAL.out, HLF.out]
        refine ⟨rfl, ?_, HO.out⟩
        have := HD.out
        rw [← HN.out, List.take_length, List.drop_length, List.append_nil] at this
        exact this
end Go.Proofs.YtljmklohgpaopaaDoor

namespace Go.Proofs.YtljmklohgpaopaaDoor
open Go.RowKit

def faultV (v : Value) : Value := .iface 128 (.agg #[v])
def faultE (v : Value) : PanicEntry := { v := faultV v, recovered := false }

theorem run_assert_fault (v : Value) (w : World) : (Instr.typeAssert (.iface 128 v) 20 128 true).run Tryd.prog w = .ok (.tuple #[v, .bool true]) w := by
  simp [Instr.typeAssert, run_underlying Tryd.underlying128, go_sem, Result.andThen]

set_option maxHeartbeats 1000000 in
theorem walCatch_panicking (p : Addr) (T : TypeId) (y : Value) (older : List PanicEntry) (w : World) (hc : w.cell? p = some .nilIface) (hz : w.frozen? p = false) :
    CallsD Tryd.prog 88 #[.pointer (some p)] (.panicking (faultE (.iface T y) :: older)) w fun e u' w' =>
      e = .returned (.tuple #[]) ∧ u' = .panicking ({ v := faultV (.iface T y), recovered := true } :: older) ∧ w' = (w.alloc (.cells #[.iface T y] 128)).setCell p (.iface T y) := by
  have hb := (Below.refl w.heap.size w).alloc (Nat.le_refl _) (.cells #[.iface T y] 128)
  have hlt := World.block_lt_of_cell? _ _ hc
  have hc' := (hb.cell hlt).trans hc
  have hz' := (hb.frozen hlt).trans hz
  clear hb
  refine callsD_of_wpS Tryd.func88 rfl fun c₀ cs hu => ?_
  unfold faultE faultV at hu
  apply wpS_seq
  apply wpS_region
  simp [wpOpsS, go_sem, recoverD, hu, Tryd.ntmps88, Exit.thenS]
  apply wpS_seq
  apply wpS_region
  simp [wpOpsS, go_sem, Exit.thenS]
  refine wpS_cond (t := true) (by simp [Act.eval, Array.replicate]) ?_
  simp only [if_true]
  apply wpS_seq
  apply wpS_region
  simp [wpOpsS, go_sem, Exit.thenS, run_assert_fault]
  apply wpS_seq
  apply wpS_seq
  apply wpS_region
  simp [wpOpsS, go_sem, Exit.thenS]
  refine wpS_cond (t := false) (by simp [Act.eval, Array.replicate]) ?_
  simp only [Bool.false_eq_true, if_false]
  refine wpS_of_wp (wp_skip ?_)
  simp only [Exit.thenS]
  apply wpS_region
  simp [wpOpsS, go_sem, hc', hz', bodyPostS, results, Tryd.results88]
  rfl

set_option maxHeartbeats 1000000 in
theorem walCatch_idle (p : Addr) (w : World) :
    CallsD Tryd.prog 88 #[.pointer (some p)] .returning w fun e u' w' => e = .returned (.tuple #[]) ∧ u' = .returning ∧ w' = w := by
  refine callsD_of_wpS Tryd.func88 rfl fun c₀ cs hu => ?_
  apply wpS_seq
  apply wpS_region
  simp [wpOpsS, go_sem, recoverD, hu, Tryd.ntmps88, Exit.thenS]
  apply wpS_seq
  apply wpS_region
  simp [wpOpsS, go_sem, Exit.thenS]
  refine wpS_cond (t := false) (by simp [Act.eval, Array.replicate]) ?_
  simp only [Bool.false_eq_true, if_false]
  refine wpS_of_wp (wp_skip ?_)
  cases c₀
  simp_all [bodyPostS, results, Tryd.results88]

set_option maxRecDepth 100000 in
/-- A call that is guarded: the body's end, told by Q (nothing, or the fault's error); the error's cell lies at the world's end. -/
theorem guarded_any (K : FuncId) (caps : Array Value) (w : World) (Q : Option Value → World → Prop) (hK : ∀ W, (callFunc K caps).run Tryd.prog W = .ok (.enter K caps) W)
    (h : Calls Tryd.prog K caps (w.alloc (.cells #[.nilIface] 70)) fun e w' => Blk w' w.heap.size 70 [.nilIface] ∧ ((e = .returned (.tuple #[]) ∧ Q none w') ∨ ∃ T y, e = .panicked [faultE (.iface T y)] ∧ Q (some (.iface T y)) w')) :
    Calls Tryd.prog 59 #[.func (.func K) #[] caps] w fun e w'' => ∃ o w', Q o w' ∧ Only (· = w.heap.size) w' w'' ∧ e = .returned (o.getD .nilIface) := by
  have hmf : ∀ (fn : Fn) (first cap : Array Value) (w : World), (Instr.makeFunc fn first cap).run Tryd.prog w = .ok (.func fn first cap) w := fun _ _ _ _ => rfl
  have H := Lib.hid h
  clear h
  go_enter_defers Tryd.func59, Tryd.ntmps59
  go_wp2_with fail
  refine H.out.mono ?_
  rintro e w' ⟨hB, ⟨rfl, hQ⟩ | ⟨T, y, rfl, hQ⟩⟩
  · have hc := hB.cell 0
    have hf := hB.frozen 0
    simp only [List.getElem?_cons_zero] at hc
    have HB := Lib.hid hB
    have HQ := Lib.hid hQ
    clear hB hQ H
    go_wp2_with fail
    refine leaves_cons (f := 88) (args := #[.pointer (some ⟨w.heap.size, 0, none⟩)]) (by simp) (by simp [go_sem]) ?_
    refine (walCatch_idle ⟨w.heap.size, 0, none⟩ _).mono ?_
    rintro e u' w'' ⟨rfl, rfl, rfl⟩
    have hc2 := (HB.out.set_ 0 .nilIface).cell 0
    simp only [List.set_cons_zero, List.getElem?_cons_zero] at hc2
    simp [Leaves, settle, results, Tryd.results59, go_sem]
    rw [hc2]
    exact ⟨_, rfl, none, w', HQ.out, (Only.refl (· = w.heap.size) w').setCell (p := ⟨w.heap.size, 0, none⟩) (.inl rfl) _, rfl⟩
  · have hc := hB.cell 0
    have hf := hB.frozen 0
    simp only [List.getElem?_cons_zero] at hc
    have HQ := Lib.hid hQ
    clear hQ H
    go_wp2_with fail
    refine leaves_cons (f := 88) (args := #[.pointer (some ⟨w.heap.size, 0, none⟩)]) (by simp) (by simp [go_sem]) ?_
    refine (walCatch_panicking ⟨w.heap.size, 0, none⟩ T y [] _ hc hf).mono ?_
    rintro e u' w'' ⟨rfl, rfl, rfl⟩
    have hc2 := ((hB.alloc (.cells #[.iface T y] 128)).set_ 0 (.iface T y)).cell 0
    simp only [List.set_cons_zero, List.getElem?_cons_zero] at hc2
    simp [Leaves, settle, results, Tryd.results59, go_sem]
    rw [hc2]
    exact ⟨_, rfl, some (.iface T y), w', HQ.out, ((Only.refl (· = w.heap.size) w').alloc _).setCell (p := ⟨w.heap.size, 0, none⟩) (.inl rfl) _, rfl⟩

def kindE (k : Nat) : Value := .iface 25 (.int .i64 (k : Int))
/-- The panic that tells a kind. -/
def died (k : Nat) : Ending := .panicked [faultE (kindE k)]

/-- How a call without a result ends: well, or by a panic that tells a kind. -/
def Ends (ok : Bool) (k : Nat) (e : Ending) : Prop := (ok = true ∧ e = .returned (.tuple #[])) ∨ (ok = false ∧ e = died k)
theorem Ends.good (k : Nat) : Ends true k (.returned (.tuple #[])) := .inl ⟨rfl, rfl⟩
theorem Ends.no (k : Nat) : Ends false k (died k) := .inr ⟨rfl, rfl⟩

set_option maxHeartbeats 1000000 in
theorem wwrite_any (g : Nat) (v : Value) (d : Pl.Dk) (rd : Int) (i : Nat) (t : List UInt8) (w : World) (h : DiskAt w g v d rd) (hi : i < d.secs.length) (ht : t.length ≤ 256) :
    Calls Tryd.prog 67 #[.pointer (some ⟨g, 0, none⟩), .int .i64 (i : Nat), .string (tstr t)] w fun e w' => Ends d.alive 3 e ∧ DiskAt w' g v (d.change (.wr i t)) rd ∧ Only (dF g v) w w' := by
  have H := Lib.hid (dwrite_any g v d rd i t w h hi ht)
  clear h hi ht
  go_enter Tryd.func67, Tryd.ntmps67
  go_wp2_with fail
  refine H.out.mono ?_
  rintro e w1 ⟨rfl, h1, h2⟩
  have H1 := Lib.hid h1
  have H2 := Lib.hid h2
  clear h1 h2 H
  cases hal : d.alive
  all_goals
    have HAL := Lib.hid hal
    clear hal
    go_wp2_with fail
  · exact ⟨rfl, by rw [HAL.out]; exact Ends.no 3, H1.out, H2.out⟩
  · go_end0
    exact ⟨by rw [HAL.out]; exact Ends.good 3, H1.out, H2.out⟩

set_option maxHeartbeats 1000000 in
theorem wsync_any (g : Nat) (v : Value) (d : Pl.Dk) (rd : Int) (w : World) (h : DiskAt w g v d rd) :
    Calls Tryd.prog 68 #[.pointer (some ⟨g, 0, none⟩)] w fun e w' => Ends d.alive 3 e ∧ DiskAt w' g v (d.change .sy) rd ∧ Only (dF g v) w w' := by
  have H := Lib.hid (dsync_any g v d rd w h)
  clear h
  go_enter Tryd.func68, Tryd.ntmps68
  go_wp2_with fail
  refine H.out.mono ?_
  rintro e w1 ⟨rfl, h1, h2⟩
  have H1 := Lib.hid h1
  have H2 := Lib.hid h2
  clear h1 h2 H
  cases hal : d.alive
  all_goals
    have HAL := Lib.hid hal
    clear hal
    go_wp2_with fail
  · exact ⟨rfl, by rw [HAL.out]; exact Ends.no 3, H1.out, H2.out⟩
  · go_end0
    exact ⟨by rw [HAL.out]; exact Ends.good 3, H1.out, H2.out⟩
end Go.Proofs.YtljmklohgpaopaaDoor

namespace Go.Proofs.YtljmklohgpaopaaDoor
open Go.RowKit

set_option maxHeartbeats 1000000 in
theorem getS_any (l : List UInt8) (w : World) (hl : l.length ≤ 8) :
    Calls Tryd.prog 63 #[.string (tstr l)] w fun e w' => e = .returned (.int .u64 (Pl.num l : Nat)) ∧ w = w' := by
  obtain ⟨s, hs⟩ : ∃ s, tstr l = s := ⟨_, rfl⟩
  have hsz : s.size = l.length := by rw [← hs, tstr_size]
  have hget : ∀ (k : Nat) (h : k < l.length) (h' : k < s.size), s[k] = l[k] := by
    intro k h h'
    subst hs
    rfl
  have HG := Lib.hid hget
  rw [hs]
  have hsi : (s.size : Int) = l.length := by omega
  have HSZ := Lib.hid hsz
  clear hs hget hsz
  go_enter Tryd.func63, Tryd.ntmps63
  go_wp2_with fail
  go_loop [3, 7] (fun v i => ∃ k : Nat, k ≤ l.length ∧ i = .int .i64 k ∧ v = .int .u64 (Pl.num (l.take k) : Nat)) (fun _ i => l.length - (intOf i).toNat)
  case atStart => exact ⟨0, Nat.zero_le _, rfl, rfl⟩
  case round =>
    obtain ⟨k, hk, rfl, rfl⟩ := hrel
    by_cases hlt : k < l.length
    · have hlt' : k < s.size := by rw [HSZ.out]; exact hlt
      have hn1 := Pl.num_take_lt l k
      have hn2 : Pl.num (l.take k) < 72057594037927936 := Nat.lt_of_lt_of_le hn1 (Nat.pow_le_pow_right (n := 256) (j := 7) (by decide) (by omega))
      have hc := l[k].toNat_lt
      have hnext : Hid (Pl.num (l.take (k + 1)) = 256 * Pl.num (l.take k) + l[k].toNat) := by rw [Hid, take_snoc l k hlt, Pl.num_snoc]
      obtain ⟨c, hcc⟩ : ∃ c, s[k] = c := ⟨_, rfl⟩
      have hcl : l[k].toNat = c.toNat := by rw [← hcc, HG.out k hlt hlt']
      obtain ⟨v, hv⟩ : ∃ v, Pl.num (l.take k) = v := ⟨_, rfl⟩
      have hnext' : Hid (Pl.num (l.take (k + 1)) = 256 * v + c.toNat) := by rw [← hv, ← hcl]; exact hnext
      have hc8 := c.toNat_lt
      rw [hv] at hn2 ⊢
      clear hn1 hnext hv hcl hc
      go_wp2_with fail
      refine ⟨⟨k + 1, by omega, by simp, ?_⟩, by simp [intOf]; omega⟩
      rw [hnext'.out, or_byte v c.toNat hn2 (by omega)]
    · obtain rfl : k = l.length := by omega
      rw [List.take_length]
      go_wp2_with fail
      go_ret
      exact ⟨rfl, rfl⟩

/-- How the log's read ends. -/
def RdEnds (d : Pl.Dk) (i : Nat) (e : Ending) : Prop := (d.life = 0 ∧ e = died 3) ∨ (d.life ≠ 0 ∧ e = .returned (.tuple #[.string (tstr ((d.look i).getD [])), .bool (d.look i).isSome]))
def Rds (rd rd' : Int) : Prop := 0 ≤ rd → rd < 4611686018427387904 → 0 ≤ rd' ∧ rd' ≤ rd + 1

set_option maxHeartbeats 1000000 in
theorem wread_any (g : Nat) (v : Value) (d : Pl.Dk) (rd : Int) (i : Nat) (w : World) (h : DiskAt w g v d rd) (hi : i < d.secs.length) :
    Calls Tryd.prog 62 #[.pointer (some ⟨g, 0, none⟩), .int .i64 (i : Nat)] w fun e w' => RdEnds d i e ∧ (∃ rd', DiskAt w' g v d rd' ∧ Rds rd rd') ∧ Only (· = g) w w' := by
  have H := Lib.hid (read_any g v d rd i w h hi)
  clear h hi
  go_enter Tryd.func62, Tryd.ntmps62
  go_wp2_with fail
  refine H.out.mono ?_
  rintro e w1 ⟨rfl, ⟨rd', h1, h2⟩, h3⟩
  have H1 := Lib.hid h1
  have H2 := Lib.hid h2
  have H3 := Lib.hid h3
  clear h1 h2 h3 H
  by_cases h0 : d.life = 0
  · have hr : readOf d i = none := by unfold readOf; rw [if_pos h0]
    rw [hr]
    have HD := Lib.hid (dead_any g v d rd' w1 H1.out)
    have HL := Lib.hid h0
    clear h0 hr
    simp only [Option.getD_none, Option.isSome_none]
    go_wp2_with fail
    refine HD.out.mono ?_
    rintro e w' ⟨rfl, rfl⟩
    rw [HL.out]
    go_wp2_with fail
    exact ⟨rfl, .inl ⟨HL.out, rfl⟩, ⟨rd', H1.out, H2.out⟩, H3.out⟩
  · have hr : readOf d i = d.look i := by unfold readOf; rw [if_neg h0]
    rw [hr]
    have HD := Lib.hid (dead_any g v d rd' w1 H1.out)
    have HL := Lib.hid h0
    have hq : (d.life == 0) = false := by simp [h0]
    have HQ := Lib.hid hq
    clear hr h0 hq
    have HE : Hid (∀ o : Option (List UInt8), d.look i = o → RdEnds d i (.returned (.tuple #[.string (tstr (o.getD [])), .bool o.isSome]))) := fun o ho => .inr ⟨HL.out, by rw [ho]⟩
    cases hlk : d.look i
    · have HK := Lib.hid hlk
      simp only [Option.getD_none, Option.isSome_none]
      clear hlk
      go_wp2_with fail
      refine HD.out.mono ?_
      rintro e w' ⟨rfl, rfl⟩
      rw [HQ.out]
      go_wp2_with fail
      go_ret2
      exact ⟨HE.out none HK.out, ⟨rd', H1.out, H2.out⟩, H3.out⟩
    · rename_i s
      have HK := Lib.hid hlk
      simp only [Option.getD_some, Option.isSome_some]
      clear hlk
      go_wp2_with fail
      go_ret2
      exact ⟨HE.out (some s) HK.out, ⟨rd', H1.out, H2.out⟩, H3.out⟩

set_option maxHeartbeats 1000000 in
theorem slot_any (ep : Nat) (w : World) (hx : ep < 18446744073709551616) :
    Calls Tryd.prog 69 #[.int .u64 (ep : Nat)] w fun e w' => e = .returned (.string (tstr (Pl.slotText ep))) ∧ Below w.heap.size w w' := by
  have hm := run_mark (P := Tryd.prog) w 23 5 #[.int .u8 72] 1 Tryd.underlying23 Tryd.underlying5 rfl
  have hrd : Ready (w.alloc (.cells #[.int .u8 72] 5 (1, 2))) w.heap.size 5 1 (.slice (some ⟨w.heap.size, 0, none⟩) 1 1) 1 (bv [72]) := by
    refine .inr ⟨rfl, _, _, rfl, .inr ⟨_, _, rfl, fun j u hu => ?_⟩⟩
    rw [Nat.zero_add, cell_of_row _ _ _ _ _ _ (heap_alloc_new w _)]
    simpa [bv] using hu
  have HRD := Lib.hid hrd
  have hbel := (Below.refl w.heap.size w).alloc (Nat.le_refl _) (.cells #[.int .u8 72] 5 (1, 2))
  have HB := Lib.hid hbel
  clear hrd hbel
  go_enter Tryd.func69, Tryd.ntmps69
  go_wp2_with fail
  refine (put_any (.slice (some ⟨w.heap.size, 0, none⟩) 1 1) 1 [72] ep 8 w.heap.size _ HRD.out HB.out.size hx (by omega) (by omega) (by omega)).mono ?_
  rintro e w1 ⟨v1, rfl, hown1, hb1, hkeep⟩
  obtain ⟨A1, cap1, rfl, hcap, hsrc, _⟩ := own_src hown1
  have hcv := run_tostr w1 A1 ([72] ++ Pl.be 8 ep) cap1 (Src.bytes hsrc)
  have hl9 : ([72] ++ Pl.be 8 ep : List UInt8).length = 9 := by simp [Pl.be_length]
  have hst : ([72] ++ Pl.be 8 ep : List UInt8) = Pl.slotText ep := rfl
  rw [hl9, hst] at hcv
  have HB1 := Lib.hid (HB.out.trans (hb1.mono (Nat.le_refl _)))
  clear hkeep hown1 hb1 hsrc hst hl9
  go_wp2_with fail
  go_ret
  exact ⟨rfl, HB1.out⟩

theorem slot_at (ep : Nat) (ei : Int) (w : World) (he : ei = ep) (hx : ep < 18446744073709551616) :
    Calls Tryd.prog 69 #[.int .u64 ei] w fun e w' => e = .returned (.string (tstr (Pl.slotText ep))) ∧ Below w.heap.size w w' := by
  subst he
  exact slot_any ep w hx
/-- A log's cells, whose disk lies at g. -/
def lgCells (g : Nat) (va : Value) (l : Pl.Lg) : List Value := [.pointer (some ⟨g, 0, none⟩), .int .i64 (l.first : Nat), .int .i64 (l.data : Nat), .int .u64 (l.epoch : Nat), .int .i64 (l.next : Nat), va, .bool l.bad]
theorem facts7 {w : World} {g : Nat} {t : TypeId} {a0 a1 a2 a3 a4 a5 a6 : Value} (h : Blk w g t [a0, a1, a2, a3, a4, a5, a6]) :
    w.cell? ⟨g, 0, none⟩ = some a0 ∧ w.cell? ⟨g, 1, none⟩ = some a1 ∧ w.cell? ⟨g, 2, none⟩ = some a2 ∧ w.cell? ⟨g, 3, none⟩ = some a3 ∧ w.cell? ⟨g, 4, none⟩ = some a4 ∧ w.cell? ⟨g, 5, none⟩ = some a5 ∧ w.cell? ⟨g, 6, none⟩ = some a6 ∧
    w.frozen? ⟨g, 0, none⟩ = false ∧ w.frozen? ⟨g, 1, none⟩ = false ∧ w.frozen? ⟨g, 2, none⟩ = false ∧ w.frozen? ⟨g, 3, none⟩ = false ∧ w.frozen? ⟨g, 4, none⟩ = false ∧ w.frozen? ⟨g, 5, none⟩ = false ∧ w.frozen? ⟨g, 6, none⟩ = false :=
  ⟨h.cell 0, h.cell 1, h.cell 2, h.cell 3, h.cell 4, h.cell 5, h.cell 6, h.frozen 0, h.frozen 1, h.frozen 2, h.frozen 3, h.frozen 4, h.frozen 5, h.frozen 6⟩
/-- The log at block gl: its cells, its row. -/
structure LogCells (w : World) (gl g : Nat) (va : Value) (l : Pl.Lg) : Prop where
  blk : Blk w gl 125 (lgCells g va l)
  small : l.first + 2 + l.data ≤ 4096 ∧ l.next ≤ l.data ∧ l.epoch < 18446744073709551616

theorem sector_any (gl g : Nat) (va : Value) (l : Pl.Lg) (i : Nat) (w : World) (h : LogCells w gl g va l) (hi : i ≤ 4096) :
    Calls Tryd.prog 90 #[.pointer (some ⟨gl, 0, none⟩), .int .i64 (i : Nat)] w fun e w' => e = .returned (.int .i64 ((l.first + 2 + i : Nat) : Int)) ∧ w' = w := by
  obtain ⟨a0, a1, a2, a3, a4, a5, a6, b0, b1, b2, b3, b4, b5, b6⟩ := facts7 h.blk
  have hs := h.small
  clear h
  go_enter Tryd.func90, Tryd.ntmps90
  go_wp2_with fail
  go_ret
  exact ⟨by congr 2, rfl⟩

theorem getS_quiet (l : List UInt8) (w : World) (hl : l.length ≤ 8) :
    Calls Tryd.prog 63 #[.string (tstr l)] w fun e w' => e = .returned (.int .u64 (Pl.num l : Nat)) ∧ w' = w := (getS_any l w hl).mono fun _ _ ⟨h1, h2⟩ => ⟨h1, h2.symm⟩

def ownRes (ep : Nat) (s : List UInt8) : Value := if Pl.ownOf ep s then .tuple #[.int .i64 ((Pl.num ((s.drop 9).take 4) : Nat) : Int), .bool true] else .tuple #[.int .i64 0, .bool false]
theorem ownRes_yes {ep : Nat} {s : List UInt8} (h : Pl.ownOf ep s = true) : ownRes ep s = .tuple #[.int .i64 ((Pl.num ((s.drop 9).take 4) : Nat) : Int), .bool true] := if_pos h
theorem ownRes_no {ep : Nat} {s : List UInt8} (h : Pl.ownOf ep s = false) : ownRes ep s = .tuple #[.int .i64 0, .bool false] := by unfold ownRes; rw [h]; rfl

set_option maxHeartbeats 2000000 in
theorem own_any (gl g : Nat) (va : Value) (l : Pl.Lg) (s : List UInt8) (w : World) (h : LogCells w gl g va l) (hs : s.length = 256) :
    Calls Tryd.prog 91 #[.pointer (some ⟨gl, 0, none⟩), .string (tstr s)] w fun e w' => e = .returned (ownRes l.epoch s) ∧ ∃ n, w' = w.drewN n := by
  obtain ⟨a0, a1, a2, a3, a4, a5, a6, b0, b1, b2, b3, b4, b5, b6⟩ := facts7 h.blk
  have hz := tstr_size s
  obtain ⟨c, hc⟩ : ∃ c, s.headD 0 = c := ⟨_, rfl⟩
  have hd : ∀ (h' : 0 < (tstr s).size), (tstr s)[0] = c := by
    intro h'
    match s, hs with
    | x :: r, _ => exact hc
  have m1 := fun w => run_str_mid w s 1 9 1 8 rfl rfl (by omega)
  have m2 := fun w => run_str_mid w s 9 13 9 4 rfl rfl (by omega)
  have G1 := getS_quiet ((s.drop 1).take 8)
  have G2 := getS_any ((s.drop 9).take 4)
  have hn2 := Pl.num_take_lt (s.drop 9) 4
  obtain ⟨x1, hx1⟩ : ∃ x1, (s.drop 1).take 8 = x1 := ⟨_, rfl⟩
  obtain ⟨x2, hx2⟩ : ∃ x2, (s.drop 9).take 4 = x2 := ⟨_, rfl⟩
  have hl1 : x1.length ≤ 8 := by rw [← hx1]; exact List.length_take_le _ _
  have hl2 : x2.length ≤ 8 := by rw [← hx2]; exact Nat.le_trans (List.length_take_le _ _) (by omega)
  have hown : Pl.ownOf l.epoch s = (c == 76 && Pl.num x1 == l.epoch) := by unfold Pl.ownOf; rw [hc, hx1]
  rw [hx2] at hn2
  have hn2' : Pl.num x2 < 4294967296 := by simpa using hn2
  rw [hx1] at G1
  rw [hx2] at G2
  rw [hx1] at m1
  rw [hx2] at m2
  obtain ⟨z1, hz1⟩ : ∃ z, tstr x1 = z := ⟨_, rfl⟩
  obtain ⟨z2, hz2⟩ : ∃ z, tstr x2 = z := ⟨_, rfl⟩
  obtain ⟨n1, hn1⟩ : ∃ n, Pl.num x1 = n := ⟨_, rfl⟩
  obtain ⟨n2, hnn⟩ : ∃ n, Pl.num x2 = n := ⟨_, rfl⟩
  rw [hz1] at m1 G1
  rw [hz2] at m2 G2
  rw [hn1] at G1 hown
  rw [hnn] at G2 hn2'
  have GQ1 := Lib.hid (fun w => G1 w hl1)
  have GQ2 := Lib.hid (fun w => G2 w hl2)
  have hyes : Pl.ownOf l.epoch s = true → ownRes l.epoch s = .tuple #[.int .i64 (n2 : Int), .bool true] := fun h => by rw [ownRes_yes h, hx2, hnn]
  have HYES := Lib.hid hyes
  obtain ⟨st, hst⟩ : ∃ st, tstr s = st := ⟨_, rfl⟩
  rw [hst] at hz m1 m2 ⊢
  simp only [hst] at hd
  have hsz : (st.size : Int) = 256 := by omega
  have hsn : st.size = 256 := by omega
  have h0 : 0 < st.size := by omega
  have hd0 : st[0]'h0 = c := hd h0
  have HOWN := Lib.hid hown
  have hep := h.small.2.2
  have hc8 := c.toNat_lt
  clear hc hx1 hx2 hl1 hl2 hown hn2 hz1 hz2 hn1 hnn G1 G2 hyes hst hd h hs hz
  by_cases hcc : c = 76
  · subst hcc
    have q0 : ((76 : UInt8).toNat : Int) = 76 := by decide
    by_cases he : n1 = l.epoch
    · have HE := Lib.hid he
      have q1 : ((n1 : Int) != (l.epoch : Int)) = false := by simp [he]
      clear he
      go_enter Tryd.func91, Tryd.ntmps91
      go_wp2_with fail
      go_quiet ((go_at_call 63; exact Calls.quiet_of_same (GQ1.out _)))
      go_wp2_with fail
      refine (GQ2.out _).mono ?_
      rintro e w' ⟨rfl, rfl⟩
      go_wp2_with fail
      go_ret2
      exact ⟨by rw [HYES.out (by rw [HOWN.out, HE.out]; simp)]; rfl, _, rfl⟩
    · have HE := Lib.hid he
      have q1 : ((n1 : Int) != (l.epoch : Int)) = true := by simp; omega
      clear he
      go_enter Tryd.func91, Tryd.ntmps91
      go_wp2_with fail
      go_quiet ((go_at_call 63; exact Calls.quiet_of_same (GQ1.out _)))
      go_wp2_with fail
      go_ret2
      exact ⟨by rw [ownRes_no (by rw [HOWN.out]; simp; exact fun h => HE.out h)]; rfl, _, rfl⟩
  · have q0 : ((c.toNat : Int) != 76) = true := by
      have : c.toNat ≠ 76 := fun h => hcc (UInt8.toNat_inj.1 h)
      simp
      omega
    have HC := Lib.hid hcc
    clear hcc
    go_enter Tryd.func91, Tryd.ntmps91
    go_wp2_with fail
    go_quiet (fail)
    go_wp2_with fail
    go_ret2
    exact ⟨by rw [ownRes_no (by rw [HOWN.out]; simp; exact fun h => absurd h HC.out)]; rfl, _, rfl⟩
end Go.Proofs.YtljmklohgpaopaaDoor
