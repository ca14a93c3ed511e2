/- The walks of the log's read, slot, sector, own; of octets' Get of a text. The walks of the log's placed, Create, do, Sync. The walk of the reference's Extends. -/
import Derived.Test.YtljmklohgpaopaaDoorMgLogs8
import Derived.Deep.QuietTactic
import Derived.BigQuiet
import Derived.Deep.RegionHeld3
import Derived.LoopTactic
import Derived.Test.YtljmklohgpaopaaDoorMgLogs5

namespace Go.Proofs.YtljmklohgpaopaaDoor
open Go.RowKit

set_option maxHeartbeats 1000000 in
theorem getS_any (l : List UInt8) (w : World) (hl : l.length ≤ 8) :
    Calls Tryd.prog 63 #[.string (tstr l)] w fun e w' => e = .returned (.int .u64 (Pl.num l : Nat)) ∧ w = w' := by
  obtain ⟨s, hs⟩ : ∃ s, tstr l = s := ⟨_, rfl⟩
  have hsz : s.size = l.length := by rw [← hs, tstr_size]
  have hget : ∀ (k : Nat) (h : k < l.length) (h' : k < s.size), s[k] = l[k] := by
    intro k h h'
    subst hs
    rfl
  have HG := Lib.hid hget
  rw [hs]
  have hsi : (s.size : Int) = l.length := by omega
  have HSZ := Lib.hid hsz
  clear hs hget hsz
  go_enter Tryd.func63, Tryd.ntmps63
  go_wp2_with fail
  go_loop [3, 7] (fun v i => ∃ k : Nat, k ≤ l.length ∧ i = .int .i64 k ∧ v = .int .u64 (Pl.num (l.take k) : Nat)) (fun _ i => l.length - (intOf i).toNat)
  case atStart => exact ⟨0, Nat.zero_le _, rfl, rfl⟩
  case round =>
    obtain ⟨k, hk, rfl, rfl⟩ := hrel
    by_cases hlt : k < l.length
    · have hlt' : k < s.size := by rw [HSZ.out]; exact hlt
      have hn1 := Pl.num_take_lt l k
      have hn2 : Pl.num (l.take k) < 72057594037927936 := Nat.lt_of_lt_of_le hn1 (Nat.pow_le_pow_right (n := 256) (j := 7) (by decide) (by omega))
      have hc := l[k].toNat_lt
      have hnext : Hid (Pl.num (l.take (k + 1)) = 256 * Pl.num (l.take k) + l[k].toNat) := by rw [Hid, take_snoc l k hlt, Pl.num_snoc]
      obtain ⟨c, hcc⟩ : ∃ c, s[k] = c := ⟨_, rfl⟩
      have hcl : l[k].toNat = c.toNat := by rw [← hcc, HG.out k hlt hlt']
      obtain ⟨v, hv⟩ : ∃ v, Pl.num (l.take k) = v := ⟨_, rfl⟩
      have hnext' : Hid (Pl.num (l.take (k + 1)) = 256 * v + c.toNat) := by rw [← hv, ← hcl]; exact hnext
      have hc8 := c.toNat_lt
      rw [hv] at hn2 ⊢
      clear hn1 hnext hv hcl hc
      go_wp2_with fail
      refine ⟨⟨k + 1, by omega, by simp, ?_⟩, by simp [intOf]; omega⟩
      rw [hnext'.out, or_byte v c.toNat hn2 (by omega)]
    · obtain rfl : k = l.length := by omega
      rw [List.take_length]
      go_wp2_with fail
      go_ret
      exact ⟨rfl, rfl⟩

/-- How the log's read ends. -/
def RdEnds (d : Pl.Dk) (i : Nat) (e : Ending) : Prop := (d.life = 0 ∧ e = died 3) ∨ (d.life ≠ 0 ∧ e = .returned (.tuple #[.string (tstr ((d.look i).getD [])), .bool (d.look i).isSome]))
def Rds (rd rd' : Int) : Prop := 0 ≤ rd → rd < 4611686018427387904 → 0 ≤ rd' ∧ rd' ≤ rd + 1

set_option maxHeartbeats 1000000 in
theorem wread_any (g : Nat) (v : Value) (d : Pl.Dk) (rd : Int) (i : Nat) (w : World) (h : DiskAt w g v d rd) (hi : i < d.secs.length) :
    Calls Tryd.prog 62 #[.pointer (some ⟨g, 0, none⟩), .int .i64 (i : Nat)] w fun e w' => RdEnds d i e ∧ (∃ rd', DiskAt w' g v d rd' ∧ Rds rd rd') ∧ Only (· = g) w w' := by
  have H := Lib.hid (read_any g v d rd i w h hi)
  clear h hi
  go_enter Tryd.func62, Tryd.ntmps62
  go_wp2_with fail
  refine H.out.mono ?_
  rintro e w1 ⟨rfl, ⟨rd', h1, h2⟩, h3⟩
  have H1 := Lib.hid h1
  have H2 := Lib.hid h2
  have H3 := Lib.hid h3
  clear h1 h2 h3 H
  by_cases h0 : d.life = 0
  · have hr : readOf d i = none := by unfold readOf; rw [if_pos h0]
    rw [hr]
    have HD := Lib.hid (dead_any g v d rd' w1 H1.out)
    have HL := Lib.hid h0
    clear h0 hr
    simp only [Option.getD_none, Option.isSome_none]
    go_wp2_with fail
    refine HD.out.mono ?_
    rintro e w' ⟨rfl, rfl⟩
    rw [HL.out]
    go_wp2_with fail
    exact ⟨rfl, .inl ⟨HL.out, rfl⟩, ⟨rd', H1.out, H2.out⟩, H3.out⟩
  · have hr : readOf d i = d.look i := by unfold readOf; rw [if_neg h0]
    rw [hr]
    have HD := Lib.hid (dead_any g v d rd' w1 H1.out)
    have HL := Lib.hid h0
    have hq : (d.life == 0) = false := by simp [h0]
    have HQ := Lib.hid hq
    clear hr h0 hq
    have HE : Hid (∀ o : Option (List UInt8), d.look i = o → RdEnds d i (.returned (.tuple #[.string (tstr (o.getD [])), .bool o.isSome]))) := fun o ho => .inr ⟨HL.out, by rw [ho]⟩
    cases hlk : d.look i
    · have HK := Lib.hid hlk
      simp only [Option.getD_none, Option.isSome_none]
      clear hlk
      go_wp2_with fail
      refine HD.out.mono ?_
      rintro e w' ⟨rfl, rfl⟩
      rw [HQ.out]
      go_wp2_with fail
      go_ret2
      exact ⟨HE.out none HK.out, ⟨rd', H1.out, H2.out⟩, H3.out⟩
    · rename_i s
      have HK := Lib.hid hlk
      simp only [Option.getD_some, Option.isSome_some]
      clear hlk
      go_wp2_with fail
      go_ret2
      exact ⟨HE.out (some s) HK.out, ⟨rd', H1.out, H2.out⟩, H3.out⟩

set_option maxHeartbeats 1000000 in
theorem slot_any (ep : Nat) (w : World) (hx : ep < 18446744073709551616) :
    Calls Tryd.prog 69 #[.int .u64 (ep : Nat)] w fun e w' => e = .returned (.string (tstr (Pl.slotText ep))) ∧ Below w.heap.size w w' := by
  have hm := run_mark (P := Tryd.prog) w 23 5 #[.int .u8 72] 1 Tryd.underlying23 Tryd.underlying5 rfl
  have hrd : Ready (w.alloc (.cells #[.int .u8 72] 5 (1, 2))) w.heap.size 5 1 (.slice (some ⟨w.heap.size, 0, none⟩) 1 1) 1 (bv [72]) := by
    refine .inr ⟨rfl, _, _, rfl, .inr ⟨_, _, rfl, fun j u hu => ?_⟩⟩
    rw [Nat.zero_add, cell_of_row _ _ _ _ _ _ (heap_alloc_new w _)]
    simpa [bv] using hu
  have HRD := Lib.hid hrd
  have hbel := (Below.refl w.heap.size w).alloc (Nat.le_refl _) (.cells #[.int .u8 72] 5 (1, 2))
  have HB := Lib.hid hbel
  clear hrd hbel
  go_enter Tryd.func69, Tryd.ntmps69
  go_wp2_with fail
  refine (put_any (.slice (some ⟨w.heap.size, 0, none⟩) 1 1) 1 [72] ep 8 w.heap.size _ HRD.out HB.out.size hx (by omega) (by omega) (by omega)).mono ?_
  rintro e w1 ⟨v1, rfl, hown1, hb1, hkeep⟩
  obtain ⟨A1, cap1, rfl, hcap, hsrc, _⟩ := own_src hown1
  have hcv := run_tostr w1 A1 ([72] ++ Pl.be 8 ep) cap1 (Src.bytes hsrc)
  have hl9 : ([72] ++ Pl.be 8 ep : List UInt8).length = 9 := by simp [Pl.be_length]
  have hst : ([72] ++ Pl.be 8 ep : List UInt8) = Pl.slotText ep := rfl
  rw [hl9, hst] at hcv
  have HB1 := Lib.hid (HB.out.trans (hb1.mono (Nat.le_refl _)))
  clear hkeep hown1 hb1 hsrc hst hl9
  go_wp2_with fail
  go_ret
  exact ⟨rfl, HB1.out⟩

theorem slot_at (ep : Nat) (ei : Int) (w : World) (he : ei = ep) (hx : ep < 18446744073709551616) :
    Calls Tryd.prog 69 #[.int .u64 ei] w fun e w' => e = .returned (.string (tstr (Pl.slotText ep))) ∧ Below w.heap.size w w' := by
  subst he
  exact slot_any ep w hx
/-- A log's cells, whose disk lies at g. -/
def lgCells (g : Nat) (va : Value) (l : Pl.Lg) : List Value := [.pointer (some ⟨g, 0, none⟩), .int .i64 (l.first : Nat), .int .i64 (l.data : Nat), .int .u64 (l.epoch : Nat), .int .i64 (l.next : Nat), va, .bool l.bad]
theorem facts7 {w : World} {g : Nat} {t : TypeId} {a0 a1 a2 a3 a4 a5 a6 : Value} (h : Blk w g t [a0, a1, a2, a3, a4, a5, a6]) :
    w.cell? ⟨g, 0, none⟩ = some a0 ∧ w.cell? ⟨g, 1, none⟩ = some a1 ∧ w.cell? ⟨g, 2, none⟩ = some a2 ∧ w.cell? ⟨g, 3, none⟩ = some a3 ∧ w.cell? ⟨g, 4, none⟩ = some a4 ∧ w.cell? ⟨g, 5, none⟩ = some a5 ∧ w.cell? ⟨g, 6, none⟩ = some a6 ∧
    w.frozen? ⟨g, 0, none⟩ = false ∧ w.frozen? ⟨g, 1, none⟩ = false ∧ w.frozen? ⟨g, 2, none⟩ = false ∧ w.frozen? ⟨g, 3, none⟩ = false ∧ w.frozen? ⟨g, 4, none⟩ = false ∧ w.frozen? ⟨g, 5, none⟩ = false ∧ w.frozen? ⟨g, 6, none⟩ = false :=
  ⟨h.cell 0, h.cell 1, h.cell 2, h.cell 3, h.cell 4, h.cell 5, h.cell 6, h.frozen 0, h.frozen 1, h.frozen 2, h.frozen 3, h.frozen 4, h.frozen 5, h.frozen 6⟩
/-- The log at block gl: its cells, its row. -/
structure LogCells (w : World) (gl g : Nat) (va : Value) (l : Pl.Lg) : Prop where
  blk : Blk w gl 125 (lgCells g va l)
  small : l.first + 2 + l.data ≤ 4096 ∧ l.next ≤ l.data ∧ l.epoch < 18446744073709551616

theorem sector_any (gl g : Nat) (va : Value) (l : Pl.Lg) (i : Nat) (w : World) (h : LogCells w gl g va l) (hi : i ≤ 4096) :
    Calls Tryd.prog 90 #[.pointer (some ⟨gl, 0, none⟩), .int .i64 (i : Nat)] w fun e w' => e = .returned (.int .i64 ((l.first + 2 + i : Nat) : Int)) ∧ w' = w := by
  obtain ⟨a0, a1, a2, a3, a4, a5, a6, b0, b1, b2, b3, b4, b5, b6⟩ := facts7 h.blk
  have hs := h.small
  clear h
  go_enter Tryd.func90, Tryd.ntmps90
  go_wp2_with fail
  go_ret
  exact ⟨by congr 2, rfl⟩

theorem getS_quiet (l : List UInt8) (w : World) (hl : l.length ≤ 8) :
    Calls Tryd.prog 63 #[.string (tstr l)] w fun e w' => e = .returned (.int .u64 (Pl.num l : Nat)) ∧ w' = w := (getS_any l w hl).mono fun _ _ ⟨h1, h2⟩ => ⟨h1, h2.symm⟩

def ownRes (ep : Nat) (s : List UInt8) : Value := if Pl.ownOf ep s then .tuple #[.int .i64 ((Pl.num ((s.drop 9).take 4) : Nat) : Int), .bool true] else .tuple #[.int .i64 0, .bool false]
theorem ownRes_yes {ep : Nat} {s : List UInt8} (h : Pl.ownOf ep s = true) : ownRes ep s = .tuple #[.int .i64 ((Pl.num ((s.drop 9).take 4) : Nat) : Int), .bool true] := if_pos h
theorem ownRes_no {ep : Nat} {s : List UInt8} (h : Pl.ownOf ep s = false) : ownRes ep s = .tuple #[.int .i64 0, .bool false] := by unfold ownRes; rw [h]; rfl

set_option maxHeartbeats 2000000 in
theorem own_any (gl g : Nat) (va : Value) (l : Pl.Lg) (s : List UInt8) (w : World) (h : LogCells w gl g va l) (hs : s.length = 256) :
    Calls Tryd.prog 91 #[.pointer (some ⟨gl, 0, none⟩), .string (tstr s)] w fun e w' => e = .returned (ownRes l.epoch s) ∧ ∃ n, w' = w.drewN n := by
  obtain ⟨a0, a1, a2, a3, a4, a5, a6, b0, b1, b2, b3, b4, b5, b6⟩ := facts7 h.blk
  have hz := tstr_size s
  obtain ⟨c, hc⟩ : ∃ c, s.headD 0 = c := ⟨_, rfl⟩
  have hd : ∀ (h' : 0 < (tstr s).size), (tstr s)[0] = c := by
    intro h'
    match s, hs with
    | x :: r, _ => exact hc
  have m1 := fun w => run_str_mid w s 1 9 1 8 rfl rfl (by omega)
  have m2 := fun w => run_str_mid w s 9 13 9 4 rfl rfl (by omega)
  have G1 := getS_quiet ((s.drop 1).take 8)
  have G2 := getS_any ((s.drop 9).take 4)
  have hn2 := Pl.num_take_lt (s.drop 9) 4
  obtain ⟨x1, hx1⟩ : ∃ x1, (s.drop 1).take 8 = x1 := ⟨_, rfl⟩
  obtain ⟨x2, hx2⟩ : ∃ x2, (s.drop 9).take 4 = x2 := ⟨_, rfl⟩
  have hl1 : x1.length ≤ 8 := by rw [← hx1]; exact List.length_take_le _ _
  have hl2 : x2.length ≤ 8 := by rw [← hx2]; exact Nat.le_trans (List.length_take_le _ _) (by omega)
  have hown : Pl.ownOf l.epoch s = (c == 76 && Pl.num x1 == l.epoch) := by unfold Pl.ownOf; rw [hc, hx1]
  rw [hx2] at hn2
  have hn2' : Pl.num x2 < 4294967296 := by simpa using hn2
  rw [hx1] at G1
  rw [hx2] at G2
  rw [hx1] at m1
  rw [hx2] at m2
  obtain ⟨z1, hz1⟩ : ∃ z, tstr x1 = z := ⟨_, rfl⟩
  obtain ⟨z2, hz2⟩ : ∃ z, tstr x2 = z := ⟨_, rfl⟩
  obtain ⟨n1, hn1⟩ : ∃ n, Pl.num x1 = n := ⟨_, rfl⟩
  obtain ⟨n2, hnn⟩ : ∃ n, Pl.num x2 = n := ⟨_, rfl⟩
  rw [hz1] at m1 G1
  rw [hz2] at m2 G2
  rw [hn1] at G1 hown
  rw [hnn] at G2 hn2'
  have GQ1 := Lib.hid (fun w => G1 w hl1)
  have GQ2 := Lib.hid (fun w => G2 w hl2)
  have hyes : Pl.ownOf l.epoch s = true → ownRes l.epoch s = .tuple #[.int .i64 (n2 : Int), .bool true] := fun h => by rw [ownRes_yes h, hx2, hnn]
  have HYES := Lib.hid hyes
  obtain ⟨st, hst⟩ : ∃ st, tstr s = st := ⟨_, rfl⟩
  rw [hst] at hz m1 m2 ⊢
  simp only [hst] at hd
  have hsz : (st.size : Int) = 256 := by omega
  have hsn : st.size = 256 := by omega
  have h0 : 0 < st.size := by omega
  have hd0 : st[0]'h0 = c := hd h0
  have HOWN := Lib.hid hown
  have hep := h.small.2.2
  have hc8 := c.toNat_lt
  clear hc hx1 hx2 hl1 hl2 hown hn2 hz1 hz2 hn1 hnn G1 G2 hyes hst hd h hs hz
  by_cases hcc : c = 76
  · subst hcc
    have q0 : ((76 : UInt8).toNat : Int) = 76 := by decide
    by_cases he : n1 = l.epoch
    · have HE := Lib.hid he
      have q1 : ((n1 : Int) != (l.epoch : Int)) = false := by simp [he]
      clear he
      go_enter Tryd.func91, Tryd.ntmps91
      go_wp2_with fail
      go_quiet ((go_at_call 63; exact Calls.quiet_of_same (GQ1.out _)))
      go_wp2_with fail
      refine (GQ2.out _).mono ?_
      rintro e w' ⟨rfl, rfl⟩
      go_wp2_with fail
      go_ret2
      exact ⟨by rw [HYES.out (by rw [HOWN.out, HE.out]; simp)]; rfl, _, rfl⟩
    · have HE := Lib.hid he
      have q1 : ((n1 : Int) != (l.epoch : Int)) = true := by simp; omega
      clear he
      go_enter Tryd.func91, Tryd.ntmps91
      go_wp2_with fail
      go_quiet ((go_at_call 63; exact Calls.quiet_of_same (GQ1.out _)))
      go_wp2_with fail
      go_ret2
      exact ⟨by rw [ownRes_no (by rw [HOWN.out]; simp; exact fun h => HE.out h)]; rfl, _, rfl⟩
  · have q0 : ((c.toNat : Int) != 76) = true := by
      have : c.toNat ≠ 76 := fun h => hcc (UInt8.toNat_inj.1 h)
      simp
      omega
    have HC := Lib.hid hcc
    clear hcc
    go_enter Tryd.func91, Tryd.ntmps91
    go_wp2_with fail
    go_quiet (fail)
    go_wp2_with fail
    go_ret2
    exact ⟨by rw [ownRes_no (by rw [HOWN.out]; simp; exact fun h => absurd h HC.out)]; rfl, _, rfl⟩
end Go.Proofs.YtljmklohgpaopaaDoor

namespace Go.Proofs.YtljmklohgpaopaaDoor
open Go.RowKit

namespace Pl
theorem run_go {d dk : Dk} {a : List Ch} {c : Ch} (h : d.run a = (dk, true)) (hal : dk.alive = true) : d.run (a ++ [c]) = (dk.change c, true) := by
  rw [Dk.run_append, h, if_pos rfl, Dk.run_cons, if_pos hal, Dk.run_nil]
theorem run_stop {d dk : Dk} {a : List Ch} {c : Ch} (r : List Ch) (h : d.run a = (dk, true)) (hal : dk.alive = false) : d.run (a ++ c :: r) = (dk.change c, false) := by
  rw [Dk.run_append, h, if_pos rfl, Dk.run_cons, if_neg (by rw [hal]; decide)]
theorem change_length (d : Dk) (c : Ch) : (d.change c).secs.length = d.secs.length := by
  unfold Dk.change
  split
  · show (c.on d.secs).length = _
    cases c <;> simp [Ch.on]
  · rfl
theorem run_length (d : Dk) (l : List Ch) : (d.run l).1.secs.length = d.secs.length := by
  induction l generalizing d with
  | nil => rfl
  | cons c r ih =>
    rw [Dk.run_cons]
    split
    · rw [ih, change_length]
    · exact change_length d c
end Pl

theorem Blk.uniqT {w : World} {g : Nat} {t t' : TypeId} {cs cs' : List Value} (h : Blk w g t cs) (h' : Blk w g t' cs') : t = t' := by
  unfold Blk at h h'
  rw [h] at h'
  injection h' with h'
  injection h' with _ h'
theorem own_type {w : World} {base size n g : Nat} {e t : TypeId} {v : Value} {xs cs : List Value} (h : w.ownsRow base e size v n xs) (hv : v.ownBlock = some g) (hb : Blk w g t cs) : t = e := by
  rcases h.2 with ⟨rfl, _⟩ | ⟨g', cap, cur, rfl, _, hg, _⟩
  · cases hv
  · have : g' = g := by simpa [Value.ownBlock] using hv
    subst this
    unfold Blk at hb
    rw [hb] at hg
    injection hg with hg
    injection hg with _ hg
theorem DiskAt.off {w : World} {g b : Nat} {v : Value} {d : Pl.Dk} {rd : Int} {t : TypeId} {cs : List Value} (h : DiskAt w g v d rd) (hb : Blk w b t cs) (h1 : t ≠ 90) (h2 : t ≠ 92) : ¬ dF g v b := by
  obtain ⟨wr, sy, hg⟩ := h.blk
  rintro (rfl | hv)
  · exact h1 (hb.uniqT hg)
  · exact h2 (own_type h.own hv hb)
/-- May a log (a tree) lie there? -/
def placedB (n : Nat) (first sectors least : Int) : Bool := decide (least ≤ sectors) && (decide (0 ≤ first) && (decide (first ≤ (n : Int)) && decide (sectors ≤ (n : Int) - first)))

theorem wplaced_nil (first sectors least : Int) (w : World) :
    Calls Tryd.prog 58 #[.pointer none, .int .i64 first, .int .i64 sectors, .int .i64 least] w fun e w' => e = .returned (.bool false) ∧ w = w' := by
  go_enter Tryd.func58, Tryd.ntmps58
  go_wp2_with fail
  go_ret
  exact ⟨rfl, rfl⟩

set_option maxHeartbeats 1000000 in
theorem wplaced_any (g : Nat) (v : Value) (d : Pl.Dk) (rd : Int) (first sectors least : Int) (w : World) (h : DiskAt w g v d rd) :
    Calls Tryd.prog 58 #[.pointer (some ⟨g, 0, none⟩), .int .i64 first, .int .i64 sectors, .int .i64 least] w fun e w' => e = .returned (.bool (placedB d.secs.length first sectors least)) ∧ w = w' := by
  have hm := h.most
  have H := Lib.hid (sectors_any g v d rd w h)
  obtain ⟨n, hn⟩ : ∃ n, d.secs.length = n := ⟨_, rfl⟩
  rw [hn] at hm H ⊢
  clear hn h
  by_cases h1 : least ≤ sectors
  · have e1 : decide (least ≤ sectors) = true := decide_eq_true h1
    by_cases h2 : 0 ≤ first
    · have e2 : decide (0 ≤ first) = true := decide_eq_true h2
      by_cases h3 : first ≤ (n : Int)
      · have e3 : decide (first ≤ (n : Int)) = true := decide_eq_true h3
        have hp : Hid (placedB n first sectors least = decide (sectors ≤ (n : Int) - first)) := by rw [Hid]; unfold placedB; rw [e1, e2, e3]; simp
        go_enter Tryd.func58, Tryd.ntmps58
        go_wp2_with fail
        refine H.out.mono ?_
        rintro e w' ⟨rfl, rfl⟩
        go_wp2_with fail
        refine H.out.mono ?_
        rintro e w' ⟨rfl, rfl⟩
        go_wp2_with fail
        go_ret
        exact ⟨by rw [hp.out]; rfl, rfl⟩
      · have e3 : decide (first ≤ (n : Int)) = false := decide_eq_false h3
        have hp : Hid (placedB n first sectors least = false) := by rw [Hid]; unfold placedB; rw [e3]; simp
        go_enter Tryd.func58, Tryd.ntmps58
        go_wp2_with fail
        refine H.out.mono ?_
        rintro e w' ⟨rfl, rfl⟩
        go_wp2_with fail
        go_ret
        exact ⟨by rw [hp.out]; rfl, rfl⟩
    · have e2 : decide (0 ≤ first) = false := decide_eq_false h2
      have hp : Hid (placedB n first sectors least = false) := by rw [Hid]; unfold placedB; rw [e2]; simp
      go_enter Tryd.func58, Tryd.ntmps58
      go_wp2_with fail
      go_ret
      exact ⟨by rw [hp.out]; rfl, rfl⟩
  · have e1 : decide (least ≤ sectors) = false := decide_eq_false h1
    have hp : Hid (placedB n first sectors least = false) := by rw [Hid]; unfold placedB; rw [e1]; simp
    go_enter Tryd.func58, Tryd.ntmps58
    go_wp2_with fail
    go_ret
    exact ⟨by rw [hp.out]; rfl, rfl⟩

/-- What a call leaves that does these changes. -/
def RunPost (ops : List Pl.Ch) (g : Nat) (v : Value) (d : Pl.Dk) (rd : Int) (w : World) (e : Ending) (w' : World) : Prop :=
  Ends (d.run ops).2 3 e ∧ DiskAt w' g v (d.run ops).1 rd ∧ Only (dF g v) w w'
theorem RunPost.stop {ops a r : List Pl.Ch} {c : Pl.Ch} {g : Nat} {v : Value} {d dk : Pl.Dk} {rd : Int} {w w' : World} (he : ops = a ++ c :: r) (h : d.run a = (dk, true)) (hal : dk.alive = false) (hd : DiskAt w' g v (dk.change c) rd) (ho : Only (dF g v) w w') : RunPost ops g v d rd w (died 3) w' := by
  have := Pl.run_stop r h hal (c := c)
  rw [← he] at this
  unfold RunPost
  rw [this]
  exact ⟨Ends.no 3, hd, ho⟩
theorem RunPost.good {ops : List Pl.Ch} {g : Nat} {v : Value} {d dk : Pl.Dk} {rd : Int} {w w' : World} (h : d.run ops = (dk, true)) (hd : DiskAt w' g v dk rd) (ho : Only (dF g v) w w') : RunPost ops g v d rd w (.returned (.tuple #[])) w' := by
  unfold RunPost
  rw [h]
  exact ⟨Ends.good 3, hd, ho⟩

def wrs (first k : Nat) : List Pl.Ch := (List.range k).map fun i => Pl.Ch.wr (first + i) []
theorem wrs_succ (first k : Nat) : wrs first (k + 1) = wrs first k ++ [.wr (first + k) []] := by simp [wrs, List.range_succ]
theorem createOps_eq (first n : Nat) : Pl.createOps first n = wrs first n ++ [.sy, .wr (first + 1) (Pl.slotText 1), .sy] := rfl
theorem wrs_split (first k n : Nat) (h : k < n) : ∃ r, wrs first n = wrs first k ++ .wr (first + k) [] :: r := by
  refine ⟨(List.range (n - (k + 1))).map (fun i => Pl.Ch.wr (first + (k + 1 + i)) []), ?_⟩
  have : n = (k + 1) + (n - (k + 1)) := by omega
  unfold wrs
  conv => lhs; rw [this, List.range_add, List.map_append, List.range_succ, List.map_append]
  simp [List.map_map]

set_option maxHeartbeats 2000000 in
set_option maxRecDepth 100000 in
theorem create1_any (g bS bD bF first n : Nat) (v : Value) (d : Pl.Dk) (rd : Int) (w : World) (h : DiskAt w g v d rd) (hS : Blk w bS 3 [.int .i64 (n : Nat)]) (hD : Blk w bD 37 [.pointer (some ⟨g, 0, none⟩)]) (hF : Blk w bF 3 [.int .i64 (first : Nat)])
    (hfit : first + n ≤ d.secs.length) (hn : 4 ≤ n) :
    Calls Tryd.prog 66 #[.pointer (some ⟨bS, 0, none⟩), .pointer (some ⟨bD, 0, none⟩), .pointer (some ⟨bF, 0, none⟩)] w (RunPost (Pl.createOps first n) g v d rd w) := by
  have hm := h.most
  have H := Lib.hid h
  have HD := Lib.hid hD
  have HF := Lib.hid hF
  have offD := Lib.hid (h.off hD (by decide) (by decide))
  have offF := Lib.hid (h.off hF (by decide) (by decide))
  have cS := hS.cell 0
  simp only [List.getElem?_cons_zero] at cS
  obtain ⟨N, hN⟩ : ∃ N, d.secs.length = N := ⟨_, rfl⟩
  rw [hN] at hm hfit
  have HN := Lib.hid hN
  have hes : (⟨#[]⟩ : ByteArray) = tstr [] := rfl
  have HES := Lib.hid hes
  clear h hS hD hF hN hes
  go_enter Tryd.func66, Tryd.ntmps66
  go_wp2_with fail
  go_loopw [5] (fun i W => ∃ (k : Nat) (dk : Pl.Dk), k ≤ n ∧ i = .int .i64 (k : Int) ∧ Hid (d.run (wrs first k) = (dk, true)) ∧ Hid (DiskAt W g v dk rd) ∧ Hid (Only (dF g v) w W)) (fun i _ => n - (intOf i).toNat)
  case atStart => exact ⟨0, d, Nat.zero_le _, rfl, rfl, H.out, Only.refl _ _⟩
  case round =>
    obtain ⟨k, dk, hk, rfl, HR, HDk, HO⟩ := hrel
    have hlen : dk.secs.length = N := by
      have := Pl.run_length d (wrs first k)
      rw [HR.out] at this
      exact this.trans HN.out
    have HLEN := Lib.hid hlen
    have hBD := HO.out.blk HD.out offD.out
    have hBF := HO.out.blk HF.out offF.out
    have cD := hBD.cell 0
    have cF := hBF.cell 0
    simp only [List.getElem?_cons_zero] at cD cF
    clear hlen hBD hBF
    by_cases hkn : k < n
    · obtain ⟨r, hr⟩ := wrs_split first k n hkn
      have HRR := Lib.hid hr
      obtain ⟨p, hp⟩ : ∃ p : Nat, (first : Int) + k = p := ⟨first + k, by omega⟩
      have hpe : p = first + k := by omega
      have HP := Lib.hid hpe
      clear hr hpe
      go_wp2_with fail
      rw [HES.out]
      refine (wwrite_any g v dk rd p [] _ HDk.out (by rw [HLEN.out, HP.out]; omega) (by simp)).mono ?_
      rintro e w2 ⟨⟨hal, rfl⟩ | ⟨hal, rfl⟩, h2, ho2⟩
      · have H2 := Lib.hid h2
        have O2 := Lib.hid (HO.out.trans' ho2)
        have R2 := Lib.hid (Pl.run_go (c := .wr p []) HR.out hal)
        clear h2 ho2 hal
        go_wp2_with fail
        refine ⟨⟨k + 1, _, by omega, by go_num, ?_, H2.out, O2.out⟩, by simp [intOf]; omega⟩
        rw [Hid, wrs_succ, ← HP.out]
        exact R2.out
      · have H2 := Lib.hid h2
        have O2 := Lib.hid (HO.out.trans' ho2)
        have HAL := Lib.hid hal
        clear h2 ho2 hal
        unfold died
        go_wp2_with fail
        exact ⟨rfl, RunPost.stop (by rw [createOps_eq, HRR.out, ← HP.out, List.append_assoc]; rfl) HR.out HAL.out H2.out O2.out⟩
    · obtain rfl : k = n := by omega
      have H4 : Hid (4 ≤ k) := hn
      clear hn
      go_wp2_with fail
      refine (wsync_any g v dk rd _ HDk.out).mono ?_
      rintro e w2 ⟨⟨hal, rfl⟩ | ⟨hal, rfl⟩, h2, ho2⟩
      · have H2 := Lib.hid h2
        have O2 := Lib.hid (HO.out.trans' ho2)
        have R2 := Lib.hid (Pl.run_go (c := .sy) HR.out hal)
        obtain ⟨d2, hd2⟩ : ∃ d2, dk.change .sy = d2 := ⟨_, rfl⟩
        rw [hd2] at H2 R2
        have L2 : Hid (d2.secs.length = N) := by rw [Hid, ← hd2, Pl.change_length]; exact HLEN.out
        have hBD := O2.out.blk HD.out offD.out
        have hBF := O2.out.blk HF.out offF.out
        have cD2 := hBD.cell 0
        have cF2 := hBF.cell 0
        simp only [List.getElem?_cons_zero] at cD2 cF2
        have s0 := Lib.hid (And.intro cD2 cF2)
        have HBD := Lib.hid hBD
        have HBF := Lib.hid hBF
        obtain ⟨p, hp⟩ : ∃ p : Nat, (first : Int) + 1 = p := ⟨first + 1, by omega⟩
        have HP : Hid (p = first + 1) := by rw [Hid]; omega
        have hpl : p < N := by have := H4.out; have := HP.out; omega
        have hw1 : IntKind.i64.wrap (p : Int) = (p : Int) := IntWalk.i64_in _ (by omega)
        have h1s : (Pl.slotText 1).length ≤ 256 := by decide
        have HX := Lib.hid h1s
        obtain ⟨st1, hst1⟩ : ∃ t, tstr (Pl.slotText 1) = t := ⟨_, rfl⟩
        have HST := Lib.hid hst1
        clear h2 ho2 hal cD cF cS hBD hBF hd2 h1s hst1
        go_wp2_with fail
        refine wp_region_held_drew (S := fun W : World => W.cell? ⟨bD, 0, none⟩ = some (.pointer (some ⟨g, 0, none⟩)) ∧ W.cell? ⟨bF, 0, none⟩ = some (.int .i64 (first : Nat))) (by kernel_rfl) s0.out (fun hHeld => ?_)
        refine wpAnyH_take (i := 0) (oi := _) (v := ?_) rfl (by kernel_rfl) (by kernel_rfl) (by kernel_rfl) (fun _ _ _ h => h) (Or.inl ⟨by rfl, ?_⟩) (by assumption) ?_
        rotate_left
        · intro W hSw
          (try dsimp only at hSw)
          go_simp
          rfl
        (try simp only [Act.put, List.setIfInBounds_toArray, List.set_cons_zero, List.set_cons_succ])
        refine wpAnyH_take (i := 1) (oi := _) (v := ?_) rfl (by kernel_rfl) (by kernel_rfl) (by kernel_rfl) (fun _ _ _ h => h) (Or.inl ⟨by rfl, ?_⟩) (by assumption) ?_
        rotate_left
        · intro W hSw
          (try dsimp only at hSw)
          go_simp
          rfl
        (try simp only [Act.put, List.setIfInBounds_toArray, List.set_cons_zero, List.set_cons_succ])
        refine wpAnyH_take (i := 2) (oi := _) (v := ?_) rfl (by kernel_rfl) (by kernel_rfl) (by kernel_rfl) (fun _ _ _ h => h) (Or.inl ⟨by rfl, ?_⟩) (by assumption) ?_
        rotate_left
        · intro W hSw
          (try dsimp only at hSw)
          go_simp
          rfl
        (try simp only [Act.put, List.setIfInBounds_toArray, List.set_cons_zero, List.set_cons_succ])
        refine wpAnyH_ready (rs := [3]) (by kernel_rfl) (by simp) ?_
        refine AllReadyH.cons (o := _) rfl (fun K hK => ?_) AllReadyH.nil
        go_simp
        refine (slot_at 1 _ _ rfl (by decide)).mono ?_
        rintro e w3 ⟨rfl, hb3⟩
        rw [HST.out]
        have hb3' := undrew hb3
        have HBD3 := Lib.hid (HBD.out.below hb3' HBD.out.lt)
        have HBF3 := Lib.hid (HBF.out.below hb3' HBF.out.lt)
        have H3 := Lib.hid (H2.out.below hb3')
        have O3 := Lib.hid (O2.out.below hb3')
        clear hb3 hb3'
        go_wp2_with fail
        refine hK.out _ _ ⟨HBD3.out.cell 0, HBF3.out.cell 0⟩ (fun hHeld3 => ?_)
        clear hK K
        (try simp only [Act.put, List.setIfInBounds_toArray, List.set_cons_zero, List.set_cons_succ])
        refine wpAnyH_ready (rs := [4]) (by kernel_rfl) (by simp) ?_
        refine AllReadyH.cons (o := _) rfl (fun K hK => ?_) AllReadyH.nil
        go_simp
        rw [← HST.out]
        refine (wwrite_any g v d2 rd p (Pl.slotText 1) _ H3.out (by rw [L2.out]; exact hpl) HX.out).mono ?_
        rintro e w4 ⟨⟨hal, rfl⟩ | ⟨hal, rfl⟩, h4, ho4⟩
        · have H4' := Lib.hid h4
          have O4 := Lib.hid (O3.out.trans' ho4)
          have R4 := Lib.hid (Pl.run_go (c := .wr p (Pl.slotText 1)) R2.out hal)
          have cD4 := (O4.out.blk HD.out offD.out).cell 0
          have cF4 := (O4.out.blk HF.out offF.out).cell 0
          simp only [List.getElem?_cons_zero] at cD4 cF4
          clear h4 ho4 hal
          go_wp2_with fail
          refine hK.out _ _ ⟨cD4, cF4⟩ (fun _ => ?_)
          refine wpAnyH_done (by kernel_rfl) ?_ _
          clear hK K hHeld hHeld3
          go_wp2_with fail
          refine (wsync_any g v _ rd _ H4'.out).mono ?_
          rintro e w5 ⟨⟨hal, rfl⟩ | ⟨hal, rfl⟩, h5, ho5⟩
          · have H5 := Lib.hid h5
            have O5 := Lib.hid (O4.out.trans' ho5)
            have R5 := Lib.hid (Pl.run_go (c := .sy) R4.out hal)
            clear h5 ho5 hal
            go_wp2_with fail
            go_end0
            exact RunPost.good (by have := R5.out; rw [HP.out] at this; rw [createOps_eq]; simpa using this) (by have := H5.out; rwa [HP.out] at this) O5.out
          · have H5 := Lib.hid h5
            have O5 := Lib.hid (O4.out.trans' ho5)
            have HAL := Lib.hid hal
            clear h5 ho5 hal
            unfold died
            go_wp2_with fail
            exact ⟨rfl, RunPost.stop (r := []) (by rw [createOps_eq, ← HP.out]; simp) R4.out HAL.out H5.out O5.out⟩
        · have H4' := Lib.hid h4
          have O4 := Lib.hid (O3.out.trans' ho4)
          have HAL := Lib.hid hal
          clear h4 ho4 hal
          unfold died
          go_wp2_with fail
          exact ⟨rfl, RunPost.stop (r := [.sy]) (by rw [createOps_eq, ← HP.out]; simp) R2.out HAL.out H4'.out O4.out⟩
      · have H2 := Lib.hid h2
        have O2 := Lib.hid (HO.out.trans' ho2)
        have HAL := Lib.hid hal
        clear h2 ho2 hal
        unfold died
        go_wp2_with fail
        exact ⟨rfl, RunPost.stop (createOps_eq _ _) HR.out HAL.out H2.out O2.out⟩
end Go.Proofs.YtljmklohgpaopaaDoor

namespace Go.Proofs.YtljmklohgpaopaaDoor
open Go.RowKit

theorem hstr_beq (a b : Nat) (ha : a < 4294967296) (hb : b < 4294967296) : ((hstr a).toList == (hstr b).toList) = decide (a = b) := by
  rw [hstr_tstr, hstr_tstr, tstr_beq, Bool.eq_iff_iff, beq_iff_eq, decide_eq_true_eq]
  constructor
  · intro h
    have h1 := hc_be a ha
    have h2 := hc_be b hb
    have h3 : Pl.num (Pl.be 4 a) = Pl.num (Pl.be 4 b) := by rw [h]
    rw [Pl.num_be 4 a ha, Pl.num_be 4 b hb] at h3
    exact h3
  · intro h; rw [h]

set_option maxHeartbeats 4000000 in
set_option maxRecDepth 100000 in
theorem refExtends_any (old more : Int) (h g : Nat) (l : List UInt8) (w : World) (hto : more ≤ 9223372036854775807) (hh : h < 4294967296) (hgg : g < 4294967296) (hm : l.length ≤ 140737488351232) :
    Calls Tryd.prog 11 #[.int .i64 old, .string (hstr h), .int .i64 more, .string (hstr g), .string (tstr l)] w fun e w' => e = .returned (.bool (Pl.extends_ old h more g l)) ∧ Below w.heap.size w w' := by
  have hz : ((hstr h).toList == [0, 0, 0, 0]) = decide (h = 0) := by
    rw [show ([0, 0, 0, 0] : List UInt8) = (hstr 0).toList by rw [ByteArray.toList_eq]; rfl]
    exact hstr_beq h 0 hh (by omega)
  have hsz := tstr_size l
  obtain ⟨st, hst⟩ : ∃ st, tstr l = st := ⟨_, rfl⟩
  obtain ⟨m, hlm⟩ : ∃ m, l.length = m := ⟨_, rfl⟩
  rw [hst, hlm] at hsz
  rw [hst]
  obtain ⟨q, hq⟩ : ∃ q : Nat, m / 13 = q := ⟨_, rfl⟩
  obtain ⟨r, hr⟩ : ∃ r : Nat, m % 13 = r := ⟨_, rfl⟩
  have hq13 : (st.size : Int) / 13 = (q : Int) := by omega
  have hr13 : (st.size : Int) % 13 = (r : Int) := by omega
  rw [hlm] at hm
  have hqm : q ≤ m := by omega
  have HQ := Lib.hid hq
  have HR := Lib.hid hr
  have HST := Lib.hid hst
  have HLM := Lib.hid hlm
  have HSZ := Lib.hid hsz
  have hs0 : (st.size : Int) ≤ 140737488351232 := by omega
  clear hq hr hst hlm hsz
  go_enter Tryd.func11, Tryd.ntmps11
  go_upto_region 1 with fail
  go_cut [43] from 14 (fun s43 wx => s43 = .bool (decide (old < 0 ∨ more < old ∨ (old = 0 ∧ h ≠ 0) ∨ r ≠ 0 ∨ (q : Int) ≠ more - old)) ∧ w = wx)
  case first =>
    by_cases h1 : old < 0
    · go_wp2_with fail
      go_meet
      case rel => exact ⟨by simp [h1], rfl⟩
    by_cases h2 : more < old
    · go_wp2_with fail
      go_meet
      case rel => exact ⟨by simp [h2], rfl⟩
    by_cases h3 : old = 0 ∧ h ≠ 0
    · have e3 : (old == 0) = true := by simp [h3.1]
      rw [decide_eq_false h3.2] at hz
      have H3 := Lib.hid h3
      clear h3
      go_wp2_with fail
      go_meet
      case rel => exact ⟨by rw [decide_eq_true (Or.inr (Or.inr (Or.inl H3.out)))], rfl⟩
    have hrest : Hid (¬ (old < 0 ∨ more < old ∨ (old = 0 ∧ h ≠ 0))) := by
      rintro (h | h | h)
      · exact h1 h
      · exact h2 h
      · exact h3 h
    have hbd : 0 ≤ more - old := by omega
    obtain ⟨dd, hdd⟩ : ∃ dd, more - old = dd := ⟨_, rfl⟩
    have hpre : ∀ (b : Bool), b = decide (r ≠ 0 ∨ (q : Int) ≠ more - old) → Value.bool b = .bool (decide (old < 0 ∨ more < old ∨ (old = 0 ∧ h ≠ 0) ∨ r ≠ 0 ∨ (q : Int) ≠ more - old)) := by
      intro b hb
      rw [hb]
      congr 1
      rw [Bool.eq_iff_iff, decide_eq_true_eq, decide_eq_true_eq]
      have := hrest.out
      constructor
      · intro h; exact .inr (.inr (.inr h))
      · rintro (h | h | h | h)
        · exact absurd (.inl h) this
        · exact absurd (.inr (.inl h)) this
        · exact absurd (.inr (.inr h)) this
        · exact h
    have HPRE := Lib.hid hpre
    have HDD := Lib.hid hdd
    have hz' : (old == 0) = true → ((hstr h).toList == [0, 0, 0, 0]) = true := by
      intro h4
      simp at h4
      rw [hz]
      by_cases h5 : h = 0
      · simp [h5]
      · exact absurd ⟨h4, h5⟩ h3
    clear h3 hpre hz
    by_cases h4 : old = 0
    · have e4 : (old == 0) = true := by simp [h4]
      have hz := hz' e4
      clear hz' h4
      by_cases h5 : r = 0
      · have e5 : ((r : Int) != 0) = false := by simp [h5]
        have H5 := Lib.hid h5
        clear h5
        by_cases h6 : (q : Int) = dd
        · have e6 : ((q : Int) != dd) = false := by simp [h6]
          have H6 := Lib.hid h6
          clear h6
          go_wp2_with fail
          go_meet
          case rel => exact ⟨HPRE.out _ (by rw [HDD.out]; simp [H5.out, H6.out]), rfl⟩
        · have e6 : ((q : Int) != dd) = true := by simp [h6]
          have H6 := Lib.hid h6
          clear h6
          go_wp2_with fail
          go_meet
          case rel => exact ⟨HPRE.out _ (by rw [HDD.out]; simp [H6.out]), rfl⟩
      · have e5 : ((r : Int) != 0) = true := by simp; omega
        have H5 := Lib.hid h5
        clear h5
        go_wp2_with fail
        go_meet
        case rel => exact ⟨HPRE.out _ (by simp [H5.out]), rfl⟩
    · have e4 : (old == 0) = false := by simp [h4]
      clear hz' h4
      by_cases h5 : r = 0
      · have e5 : ((r : Int) != 0) = false := by simp [h5]
        have H5 := Lib.hid h5
        clear h5
        by_cases h6 : (q : Int) = dd
        · have e6 : ((q : Int) != dd) = false := by simp [h6]
          have H6 := Lib.hid h6
          clear h6
          go_wp2_with fail
          go_meet
          case rel => exact ⟨HPRE.out _ (by rw [HDD.out]; simp [H5.out, H6.out]), rfl⟩
        · have e6 : ((q : Int) != dd) = true := by simp [h6]
          have H6 := Lib.hid h6
          clear h6
          go_wp2_with fail
          go_meet
          case rel => exact ⟨HPRE.out _ (by rw [HDD.out]; simp [H6.out]), rfl⟩
      · have e5 : ((r : Int) != 0) = true := by simp; omega
        have H5 := Lib.hid h5
        clear h5
        go_wp2_with fail
        go_meet
        case rel => exact ⟨HPRE.out _ (by simp [H5.out]), rfl⟩
  case rest =>
  obtain ⟨rfl, rfl⟩ := hcut
  clear hz
  have hsame : Hid (Pl.extends_ old h more g l = if old < 0 ∨ more < old ∨ (old = 0 ∧ h ≠ 0) ∨ r ≠ 0 ∨ (q : Int) ≠ more - old then false else Pl.heads (old.toNat + 1) h l == some g) := by
    rw [Hid]
    unfold Pl.extends_
    rw [HLM.out, HQ.out, HR.out]
    congr 1
    apply propext
    constructor
    · rintro (h | h | h | h | h)
      · exact .inl h
      · exact .inr (.inr (.inl h))
      · exact .inr (.inl h)
      · exact .inr (.inr (.inr (.inl h)))
      · exact .inr (.inr (.inr (.inr h)))
    · rintro (h | h | h | h | h)
      · exact .inl h
      · exact .inr (.inr (.inl h))
      · exact .inr (.inl h)
      · exact .inr (.inr (.inr (.inl h)))
      · exact .inr (.inr (.inr (.inr h)))
  by_cases hbad : old < 0 ∨ more < old ∨ (old = 0 ∧ h ≠ 0) ∨ r ≠ 0 ∨ (q : Int) ≠ more - old
  · rw [decide_eq_true hbad]
    have HBAD := Lib.hid hbad
    clear hbad
    go_wp2_with fail
    go_ret
    exact ⟨by rw [hsame.out, if_pos HBAD.out]; rfl, Below.refl _ _⟩
  rw [decide_eq_false hbad]
  have hext : Pl.extends_ old h more g l = (Pl.heads (old.toNat + 1) h l == some g) := by rw [hsame.out, if_neg hbad]
  have hg0 : ¬ old < 0 := fun h => hbad (.inl h)
  have hr0 : r = 0 := by
    by_cases h : r = 0
    · exact h
    · exact absurd (.inr (.inr (.inr (.inl h)))) hbad
  have hqq : (q : Int) = more - old := by
    by_cases h : (q : Int) = more - old
    · exact h
    · exact absurd (.inr (.inr (.inr (.inr h)))) hbad
  have hm13 : m = 13 * q := by have := HQ.out; have := HR.out; omega
  obtain ⟨o, rfl⟩ : ∃ o : Nat, old = o := ⟨old.toNat, by omega⟩
  rw [Int.toNat_natCast] at hext
  have hoq : o + q ≤ 9223372036854775807 := by omega
  have HEXT := Lib.hid hext
  have HM13 := Lib.hid hm13
  have hm13' : 13 * q ≤ m := by omega
  clear hbad hext hr0 hqq hm13 hr13 hsame
  go_wp2_with fail
  go_loopw [1, 11] (fun u i wr => ∃ (k x : Nat), k ≤ q ∧ i = .int .i64 k ∧ u = .string (hstr x) ∧ x < 4294967296 ∧ Hid (Below w.heap.size w wr) ∧ Hid (Pl.heads (o + 1) h l = Pl.heads (o + 1 + k) x (l.drop (13 * k)))) (fun _ i _ => q - (intOf i).toNat)
  case atStart => exact ⟨0, h, Nat.zero_le _, rfl, rfl, hh, Below.refl _ _, rfl⟩
  case round =>
    obtain ⟨k, x, hk, rfl, rfl, hx, HB, HHD⟩ := hrel
    by_cases hkq : k < q
    · have hkq1 : (k : Int) < (q : Int) := by omega
      have hmid := fun w => run_str_mid w l (13 * k) (13 * k + 13) (13 * k) 13 (by omega) (by omega) (by rw [HLM.out]; omega)
      rw [HST.out] at hmid
      obtain ⟨L, hL⟩ : ∃ L, l.drop (13 * k) = L := ⟨_, rfl⟩
      have hLl : 13 ≤ L.length := by rw [← hL, List.length_drop, HLM.out]; omega
      have HL := Lib.hid hL
      rw [hL] at hmid HHD
      obtain ⟨T, hT⟩ : ∃ T, L.take 13 = T := ⟨_, rfl⟩
      have hTl : T.length = 13 := by rw [← hT, List.length_take]; omega
      have hT9 : T.take 9 = L.take 9 := by rw [← hT, List.take_take]; congr 1
      rw [hT] at hmid
      have hcut9 := fun w => run_str_take w T 9 9 rfl (by omega)
      obtain ⟨b, hbe⟩ : ∃ b : Nat, (o : Int) + 1 + k = b := ⟨o + 1 + k, by omega⟩
      have HBE := Lib.hid (show b = o + 1 + k by omega)
      have hcat1 : ∀ w, (Op.stringOp .add (⟨#[66]⟩ : ByteArray) (tstr (Pl.be 4 b))).run Tryd.prog w = .ok (.string (tstr ([66] ++ Pl.be 4 b))) w := fun w => run_cat w [66] (Pl.be 4 b) (by simp [Pl.be_length])
      have hcat2 := fun w => run_cat w ([66] ++ Pl.be 4 b) (Pl.be 4 x) (by simp [Pl.be_length])
      have hcmp := tstr_beq (T.take 9) ([66] ++ Pl.be 4 b ++ Pl.be 4 x)
      obtain ⟨ss, hss⟩ : ∃ ss, tstr T = ss := ⟨_, rfl⟩
      have HSUM : ∀ w, _ := fun w => refSum_of ss T w (by rw [← hss]; rfl) (by omega)
      rw [hss] at hmid hcut9
      obtain ⟨s9, hs9⟩ : ∃ s9, tstr (T.take 9) = s9 := ⟨_, rfl⟩
      obtain ⟨sb, hsb⟩ : ∃ sb, tstr (Pl.be 4 b) = sb := ⟨_, rfl⟩
      obtain ⟨sc, hsc⟩ : ∃ sc, tstr ([66] ++ Pl.be 4 b) = sc := ⟨_, rfl⟩
      obtain ⟨sd, hsd⟩ : ∃ sd, tstr ([66] ++ Pl.be 4 b ++ Pl.be 4 x) = sd := ⟨_, rfl⟩
      obtain ⟨eqb, heqb⟩ : ∃ eqb, (T.take 9 == [66] ++ Pl.be 4 b ++ Pl.be 4 x) = eqb := ⟨_, rfl⟩
      rw [hs9] at hcut9 hcmp
      rw [hsb, hsc] at hcat1
      rw [hsc, ← hstr_tstr, hsd] at hcat2
      rw [hsd, heqb] at hcmp
      have hHEQ : eqb = decide (L.take 9 = 66 :: (Pl.be 4 b ++ Pl.be 4 x)) := by
        rw [← heqb, hT9, Bool.eq_iff_iff, beq_iff_eq, decide_eq_true_eq]
        simp
      have HHEQ := Lib.hid hHEQ
      have HSB := Lib.hid hsb
      have HSUM' := Lib.hid HSUM
      have HT := Lib.hid hT
      have HB0 := HB.out.size
      clear heqb hHEQ hT9 hL hT hTl hss hs9 hsb hsc hsd HSUM
      by_cases hb32 : b < 4294967296
      · have hb33 : ¬ (4294967295 : Int) < (b : Int) := by omega
        have hb34 : decide ((4294967295 : Int) < (b : Int)) = false := decide_eq_false hb33
        have hwrap : IntKind.u64.wrap (b : Int) = (b : Int) := by rw [IntKind.wrap_u64]; omega
        go_wp2_with fail
        go_region_held3 (fun _ => True) (trivial) (first
          | (go_at_call 28; refine (refBytes_any b 4 _ (by omega) (by omega)).mono ?_; rintro e w2 ⟨rfl, hb2⟩
             rw [show (⟨(Pl.be 4 b).toArray⟩ : ByteArray) = sb from HSB.out]
             have HB2 := Lib.hid (HB.out.trans ((undrew hb2).mono HB0))
             clear hb2)
          | fail)
        have HBS := HB2.out.size
        clear hwrap
        cases eqb with
        | false =>
          go_wp2_with fail
          go_ret
          refine ⟨?_, HB2.out⟩
          have h1 := HEXT.out
          have h2 := HHD.out
          have h3 := HHEQ.out
          rw [Pl.heads_bad (o + 1 + k) x L hLl (fun h => by rw [← HBE.out] at h; rw [decide_eq_true h.2] at h3; cases h3)] at h2
          rw [h1, h2]
          rfl
        | true =>
          have hgo : Pl.heads (o + 1) h l = Pl.heads (o + 1 + (k + 1)) (Pl.sumN T) (l.drop (13 * (k + 1))) := by
            have h3 := HHEQ.out
            have hLn : l.drop (13 * (k + 1)) = L.drop 13 := by rw [← HL.out, List.drop_drop]; congr 1
            rw [HHD.out, hLn, Pl.heads_go (o + 1 + k) x L hLl (by rw [← HBE.out]; exact hb32) (by rw [← HBE.out]; simpa using h3.symm), HT.out]
            congr 1
          have HGO := Lib.hid hgo
          clear hgo
          go_wp2_with fail
          refine (HSUM'.out w2).mono ?_
          rintro e w3 ⟨rfl, hb3⟩
          have HB3 := Lib.hid (HB2.out.trans (hb3.mono HBS))
          clear hb3
          go_wp2_with fail
          exact ⟨⟨k + 1, Pl.sumN T, by omega, rfl, rfl, Nat.lt_trans (Pl.sumN_lt _) (by decide), HB3.out, HGO.out⟩, by simp [intOf]; omega⟩
      · have hb33 : (4294967295 : Int) < (b : Int) := by omega
        have hb34 : decide ((4294967295 : Int) < (b : Int)) = true := decide_eq_true hb33
        go_wp2_with fail
        go_quiet (fail)
        go_wp2_with fail
        go_ret
        refine ⟨?_, below_drewN HB.out _⟩
        have h1 := HEXT.out
        have h2 := HHD.out
        rw [Pl.heads_bad (o + 1 + k) x L hLl (fun h => by have := HBE.out; omega)] at h2
        rw [h1, h2]
        rfl
    · obtain rfl : k = q := by omega
      have hcmp := hstr_beq x g hx hgg
      have hqk : ¬ (k : Int) < (k : Int) := by omega
      go_wp2_with fail
      go_ret
      refine ⟨?_, HB.out⟩
      have h1 := HEXT.out
      have h2 := HHD.out
      rw [Pl.heads_short (o + 1 + k) x (l.drop (13 * k)) (by rw [List.length_drop, HLM.out]; have := HM13.out; omega)] at h2
      rw [h1, h2]
      by_cases hxg : x = g
      · simp [hxg]
      · simp [hxg]
end Go.Proofs.YtljmklohgpaopaaDoor
