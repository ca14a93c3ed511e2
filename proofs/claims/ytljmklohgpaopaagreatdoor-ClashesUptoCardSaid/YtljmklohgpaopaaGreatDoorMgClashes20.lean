/- The walk of the chain's blocks. The chain's Clash: what its walk needs. The walk of the chain's Clash. -/
import Derived.Test.YtljmklohgpaopaaGreatDoorMgClashes19
set_option linter.unusedVariables false
set_option linter.unusedSimpArgs false

namespace Go.Proofs.YtljmklohgpaopaaGreatDoor
open Go.RowKit

def BlocksPost (w : World) (ls : List (List UInt8)) (n : Nat) (e : Ending) (w' : World) : Prop :=
  ((∃ l ∈ ls, Pl.readTx l = none) ∧ e = .returned (.tuple #[.slice none 0 0, .bool false]) ∧ Below w.heap.size w w') ∨
  ((∀ l ∈ ls, Pl.readTx l ≠ none) ∧ ∃ v, e = .returned (.tuple #[v, .bool true]) ∧ OL 204 3 (BkR (txsOf ls)) w' w.heap.size v (List.range (n / 3)) ∧ Below w.heap.size w w')
theorem hc_zero : hc 0 = [.int .u8 0, .int .u8 0, .int .u8 0, .int .u8 0] := by unfold hc; rfl
theorem facts3c {w : World} {g : Nat} {t : TypeId} {a0 a1 a2 : Value} (h : Blk w g t [a0, a1, a2]) :
    (w.cell? ⟨g, 0, none⟩ = some a0 ∧ w.cell? ⟨g, 1, none⟩ = some a1 ∧ w.cell? ⟨g, 2, none⟩ = some a2) ∧ w.frozen? ⟨g, 0, none⟩ = false ∧ w.frozen? ⟨g, 1, none⟩ = false ∧ w.frozen? ⟨g, 2, none⟩ = false := ⟨⟨h.cell 0, h.cell 1, h.cell 2⟩, h.frozen 0, h.frozen 1, h.frozen 2⟩
/-- What the inner loop keeps, behind d entries and m transactions. -/
structure InB (T : List Pl.Txn) (j g7 : Nat) (ws W : World) (ev tv : Value) (d m : Nat) : Prop where
  blk : Blk W g7 204 [.slice none 0 0, ev, tv]
  ents : OLx 25 1 SlR tv W (g7 + 1) ev ((Pl.ents T j).take d)
  txs : OLx 210 2 TxR ev W (g7 + 1) tv ((three T j).take m)
  old : Below g7 ws W
theorem InB.below {T : List Pl.Txn} {j g7 d m : Nat} {ws W W' : World} {ev tv : Value} (h : InB T j g7 ws W ev tv d m) (hb : Below W.heap.size W W') : InB T j g7 ws W' ev tv d m :=
  ⟨h.blk.below hb h.blk.lt, h.ents.below SlR.fr hb, h.txs.below TxR.fr hb, h.old.trans (hb.mono (Nat.le_of_lt h.blk.lt))⟩
theorem InB.push_tx {T : List Pl.Txn} {j g7 d m : Nat} {ws W w5 : World} {ev tv tv5 : Value} (h : InB T j g7 ws W ev tv d m) (mv : Mv W w5 tv tv5) (o : OL 210 2 (RX (fun b => ev.ownBlock = some b) TxR) w5 (g7 + 1) tv5 ((three T j).take (m + 1))) :
    InB T j g7 ws (w5.setCell ⟨g7, 2, none⟩ tv5) ev tv5 d (m + 1) := by
  have ho : Only (· = g7) w5 (w5.setCell ⟨g7, 2, none⟩ tv5) := (Only.refl (· = g7) w5).setCell (p := ⟨g7, 2, none⟩) (.inl rfl) _
  have hn : tv.ownBlock ≠ some g7 := fun e => by have := (h.txs.1.lt g7 e).1; omega
  have hF : ∀ x, g7 + 1 ≤ x → x < w5.heap.size → ¬ x = g7 := fun x h1 _ h2 => by omega
  refine ⟨(mv.only.blk h.blk (fun e => hn e)).set_ 2 _, (h.ents.other SlR.fr mv).only SlR.fr ho hF, OLx.only TxR.fr ⟨o, fun g hg e => ?_⟩ ho hF, ((h.old.trans (mv.only.toBelow (Nat.le_of_lt h.blk.lt) (fun k hk e => by have := (h.txs.1.lt k e).1; omega))).setCell (p := ⟨g7, 2, none⟩) (Nat.le_refl _) _)⟩
  exact mv.2 g (h.ents.1.lt g e).2 (h.ents.2 g e) hg
theorem InB.push_en {T : List Pl.Txn} {j g7 d m : Nat} {ws W w5 : World} {ev tv ev5 : Value} (h : InB T j g7 ws W ev tv d m) (mv : Mv W w5 ev ev5) (o : OL 25 1 (RX (fun b => tv.ownBlock = some b) SlR) w5 (g7 + 1) ev5 ((Pl.ents T j).take (d + 1))) :
    InB T j g7 ws (w5.setCell ⟨g7, 1, none⟩ ev5) ev5 tv (d + 1) m := by
  have ho : Only (· = g7) w5 (w5.setCell ⟨g7, 1, none⟩ ev5) := (Only.refl (· = g7) w5).setCell (p := ⟨g7, 1, none⟩) (.inl rfl) _
  have hn : ev.ownBlock ≠ some g7 := fun e => by have := (h.ents.1.lt g7 e).1; omega
  have hF : ∀ x, g7 + 1 ≤ x → x < w5.heap.size → ¬ x = g7 := fun x h1 _ h2 => by omega
  refine ⟨(mv.only.blk h.blk (fun e => hn e)).set_ 1 _, OLx.only SlR.fr ⟨o, fun g hg e => ?_⟩ ho hF, (h.txs.other TxR.fr mv).only TxR.fr ho hF, ((h.old.trans (mv.only.toBelow (Nat.le_of_lt h.blk.lt) (fun k hk e => by have := (h.ents.1.lt k e).1; omega))).setCell (p := ⟨g7, 1, none⟩) (Nat.le_refl _) _)⟩
  exact mv.2 g (h.txs.1.lt g e).2 (h.txs.2 g e) hg
theorem takeSnoc {α : Type} {xs : List α} {d : Nat} {x : α} (h : xs[d]? = some x) : xs.take (d + 1) = xs.take d ++ [x] := by rw [List.take_add_one, h]; rfl

set_option maxHeartbeats 4000000 in
set_option maxRecDepth 100000 in
theorem blocks_any (n : Nat) (ls : List (List UInt8)) (A : Option Addr) (cap : Nat) (w : World) (hls : BR w (· < w.heap.size) A ls) (hn : ls.length = n) (hcap : n ≤ cap) (h3 : n % 3 = 0) (hm : n ≤ 1048576) :
    Calls Tryz.prog 106 #[.slice A n cap] w (BlocksPost w ls n) := by
  obtain ⟨i0, hi0, hz0, hz1, hz2⟩ := info_parts Tryz.infoSlice
  obtain ⟨j0, hj0, hy0, hy1, hy2⟩ := info_parts Tryz.infoTx
  obtain ⟨k0, hk0, hx0, hx1, hx2⟩ := info_parts Tryz.infoBlock
  have HI := Lib.hid (And.intro hi0 (And.intro hz0 (And.intro hz1 hz2)))
  have HJ := Lib.hid (And.intro hj0 (And.intro hy0 (And.intro hy1 hy2)))
  have HK := Lib.hid (And.intro hk0 (And.intro hx0 (And.intro hx1 hx2)))
  clear hi0 hz0 hz1 hz2 hj0 hy0 hy1 hy2 hk0 hx0 hx1 hx2
  obtain ⟨T, hT⟩ : ∃ T, txsOf ls = T := ⟨_, rfl⟩
  obtain ⟨N, hN⟩ : ∃ N, n / 3 = N := ⟨_, rfl⟩
  have hnN : n = 3 * N := by omega
  obtain ⟨g5, hg5⟩ : ∃ g, w.heap.size = g := ⟨_, rfl⟩
  obtain ⟨wa, hwa⟩ : ∃ wa, w.alloc (.cells #[.int .u8 0, .int .u8 0, .int .u8 0, .int .u8 0] 200) = wa := ⟨_, rfl⟩
  have hba : Below w.heap.size w wa := by rw [← hwa]; exact (Below.refl _ _).alloc (Nat.le_refl _) _
  have K5 : Blk wa g5 200 (hc 0) := by rw [← hwa, ← hg5, hc_zero]; exact Blk.new w 200 _
  have HT := Lib.hid hT
  have HN := Lib.hid hN
  have HLS := Lib.hid hls
  have HN2 := Lib.hid hn
  have HNN := Lib.hid hnN
  have K5 := Lib.hid K5
  have HBA := Lib.hid hba
  have hnle : 3 * N ≤ n := by omega
  have hnge : n ≤ 3 * N := by omega
  clear hT hN hls hn hnN hba h3
  go_enter Tryz.func106, Tryz.ntmps106
  go_wp2_with fail
  go_loopw [4, 6] (fun v i W => ∃ j : Nat, j ≤ N ∧ i = .int .i64 ((3 * j : Nat) : Int) ∧ Hid (OL 204 3 (BkR T) W (g5 + 1) v (List.range j)) ∧ Hid (Blk W g5 200 (hc (Pl.hashAt T j))) ∧ Hid (Below g5 w W) ∧
      Hid (∀ k l, k < 3 * j → ls[k]? = some l → Pl.readTx l ≠ none)) (fun _ i _ => n - (intOf i).toNat)
  case atStart => exact ⟨0, Nat.zero_le _, rfl, OL.nil _ _, K5.out, by rw [← hg5]; exact HBA.out, fun k l hk => by omega⟩
  case round =>
    obtain ⟨j, hj, rfl, HO, HK5, HB, HRD⟩ := hrel
    obtain ⟨ws, hws⟩ : ∃ x, x = wr := ⟨_, rfl⟩
    subst hws
    obtain ⟨i, hi⟩ : ∃ i, 3 * j = i := ⟨_, rfl⟩
    rw [hi]
    have HI3 := Lib.hid hi
    have hin : i ≤ n := by omega
    by_cases hjN : j < N
    · have q1 : (i : Int) < (n : Int) := by omega
      have hi3 : i + 3 ≤ n := by omega
      obtain ⟨g7, hg7⟩ : ∃ g, ws.heap.size = g := ⟨_, rfl⟩
      have hs5 : g5 < g7 := by rw [← hg7]; exact HK5.out.lt
      obtain ⟨w1, hw1⟩ : ∃ w1, ws.alloc (.cells #[.slice none 0 0, .slice none 0 0, .slice none 0 0] 204) = w1 := ⟨_, rfl⟩
      have hb1 : Below g7 ws w1 := by rw [← hw1]; exact (Below.refl _ _).alloc (by omega) _
      have I1 : Hid (InB T j g7 ws w1 (.slice none 0 0) (.slice none 0 0) 0 0) := ⟨by rw [← hw1, ← hg7]; exact Blk.new ws 204 _, OLx.nil _ _ _, OLx.nil _ _ _, hb1⟩
      clear hi hb1
      go_wp2_with fail
      go_loopw [8] (fun k W => ∃ (d : Nat) (ev tv : Value), d ≤ 3 ∧ k = .int .i64 ((i + d : Nat) : Int) ∧ Hid (InB T j g7 ws W ev tv d d) ∧ Hid (∀ k l, k < i + d → ls[k]? = some l → Pl.readTx l ≠ none)) (fun k _ => i + 3 - (intOf k).toNat)
      case atStart => exact ⟨0, _, _, by omega, rfl, I1.out, by rw [← HI3.out]; exact HRD.out⟩
      case round =>
        obtain ⟨d, ev, tv, hd, rfl, HIN, HRE⟩ := hrel
        obtain ⟨k, hk⟩ : ∃ k, i + d = k := ⟨_, rfl⟩
        rw [hk]
        have HKD := Lib.hid hk
        clear hk
        by_cases hd3 : d < 3
        · have hkd := HKD.out
          have q2 : (k : Int) < (i : Int) + 3 := by omega
          have hkn : k < n := by omega
          obtain ⟨l, hl⟩ : ∃ l, ls[k]? = some l := ⟨_, List.getElem?_eq_getElem (by rw [HN2.out]; exact hkn)⟩
          obtain ⟨b, off, rfl⟩ : ∃ b off, A = some ⟨b, off, none⟩ := HLS.out.bb.addr (by have := HN2.out; omega)
          have hbw : Below g5 w wr := HB.out.trans (HIN.out.old.mono (by omega))
          have hbr := HLS.out.keepB (B := g5) (P := (· < w.heap.size)) hbw (fun b hb => by have : b < w.heap.size := hb; omega)
          obtain ⟨Ak, nk, ck, hcell, hnk, hnc, hmk, hby, hpk⟩ := hbr.at_ hl
          have hsz7 := HIN.out.blk.lt
          have HRK := read_any Ak ck l wr hby (by omega) (by omega) (fun p hp => by have : p.block < w.heap.size := hpk p hp; omega)
          rw [hnk] at HRK
          have HRK := Lib.hid HRK
          have HL := Lib.hid hl
          have HBW := Lib.hid hbw
          obtain ⟨⟨c0, c1, c2⟩, f0, f1, f2⟩ := facts3c HIN.out.blk
          clear hbr hnk hby hpk hl hbw
          go_wp2_with fail
          refine HRK.out.mono ?_
          rintro e w2 ⟨Tv, A2, n2, cap2, ok, rfl, hb2, hok, htx⟩
          have IN2 : Hid (InB T j g7 ws w2 ev tv d d) := HIN.out.below hb2
          have HTX := Lib.hid htx
          have HOK := Lib.hid hok
          have HB2 := Lib.hid hb2
          clear hb2 htx hok c0 c1 c2 f0 f1 f2
          cases ok with
          | false =>
            have hnone : Pl.readTx l = none := by
              have := HOK.out
              cases h : Pl.readTx l with
              | none => rfl
              | some t => rw [h] at this; cases this
            have HNO := Lib.hid hnone
            clear hnone
            go_wp2_with fail
            go_ret2
            exact .inl ⟨⟨l, List.mem_of_getElem? HL.out, HNO.out⟩, rfl, (HBW.out.mono (by omega : w.heap.size ≤ g5)).trans ((HB2.out.mono (by have := HBW.out.size; omega)).alloc (by have := HBW.out.size; have := HB2.out.size; omega) _)⟩
          | true =>
            obtain ⟨t, ht⟩ : ∃ t, Pl.readTx l = some t := by
              have := HOK.out
              cases h : Pl.readTx l with
              | none => rw [h] at this; cases this
              | some t => exact ⟨t, rfl⟩
            have HRT := Lib.hid ht
            have HTR := Lib.hid (HTX.out t ht)
            have HAT : Hid (Pl.txAt T (3 * j + d) = t) := by rw [Hid, ← HT.out]; exact txAt_of (k := 3 * j + d) (by rw [HI3.out, HKD.out]; exact HL.out) ht
            have hOKt := Lib.hid ((Pl.readTx_iff l t).1 ht).1
            obtain ⟨g9, hg9⟩ : ∃ g, w2.heap.size = g := ⟨_, rfl⟩
            obtain ⟨w3, hw3⟩ : ∃ w3, w2.alloc (.cells #[.int .i64 Tv, .slice A2 n2 cap2] 210) = w3 := ⟨_, rfl⟩
            have hb3 : Below w2.heap.size w2 w3 := by rw [← hw3]; exact (Below.refl _ _).alloc (Nat.le_refl _) _
            have B9 : Blk w3 g9 210 [.int .i64 Tv, .slice A2 n2 cap2] := by rw [← hw3, ← hg9]; exact Blk.new w2 210 _
            obtain ⟨w4, hw4⟩ : ∃ w4, w3.alloc (.cells #[.int .i64 Tv, .slice A2 n2 cap2] 210) = w4 := ⟨_, rfl⟩
            have hb4 : Below w3.heap.size w3 w4 := by rw [← hw4]; exact (Below.refl _ _).alloc (Nat.le_refl _) _
            have S4 : Hid (Src w4 (some ⟨w3.heap.size, 0, none⟩) [.int .i64 Tv, .slice A2 n2 cap2]) := Src.of_blk (t := 210) (by rw [← hw4]; exact Blk.new w3 210 _)
            have hb24 := hb3.trans (hb4.mono hb3.size)
            have IN3 := Lib.hid (IN2.out.below hb3)
            have IN4 := Lib.hid (IN2.out.below hb24)
            have B94 := Lib.hid (B9.below hb4 B9.lt)
            have hwr7 : g7 + 1 ≤ wr.heap.size := hsz7
            have R4 : Hid (RX (fun b => ev.ownBlock = some b) TxR w4 (fun b => g7 + 1 ≤ b ∧ b < w4.heap.size ∧ tv.ownBlock ≠ some b) [.int .i64 Tv, .slice A2 n2 cap2] t) :=
              TxR.fr (fun _ => False) _ _ w2 w4 _ _ HTR.out (Only.of_below hb24 _) (fun _ _ h => h) (fun b hb => ⟨⟨by omega, Nat.lt_of_lt_of_le hb.2 hb24.size, fun e => by have := (HIN.out.txs.1.lt b e).2; omega⟩, fun e => by have := (HIN.out.ents.1.lt b e).2; omega⟩)
            have L4 : Hid (((three T j).take d).length ≤ 4294967296) := by rw [Hid, List.length_take]; omega
            have H14 : Hid (g7 + 1 ≤ w4.heap.size) := by rw [Hid]; have := hb24.size; have := HB2.out.size; omega
            obtain ⟨⟨c0, c1, c2⟩, f0, f1, f2⟩ := facts3c IN3.out.blk
            obtain ⟨e0, e1, _, _⟩ := facts2 B9
            have C9 := Lib.hid (And.intro e0 e1)
            have HB24 := Lib.hid hb24
            clear hb3 hb4 hb24 B9 ht
            go_wp2_with (first
              | (at_builtin
                 refine wpList_ol (v := tv) (RX.fr TxR.fr) rfl (.tmp 35) (.tmp 37) 202 rfl Tryz.underlying202 HJ.out.1 HJ.out.2.1 HJ.out.2.2.1 HJ.out.2.2.2 rfl (by decide) rfl IN4.out.txs.1 (some ⟨w3.heap.size, 0, none⟩) 1 [.int .i64 Tv, .slice A2 n2 cap2] t rfl rfl S4.out (by simp; exact ⟨rfl, rfl⟩) R4.out L4.out (by decide) H14.out ?_
                 intro tv5 w5 o5 m5
                 have o5' : OL 210 2 (RX (fun b => ev.ownBlock = some b) TxR) w5 (g7 + 1) tv5 ((three T j).take (d + 1)) := by rw [takeSnoc (three_at T j d hd3), HAT.out]; exact o5
                 have IN6 := Lib.hid (IN4.out.push_tx m5 o5')
                 have htn : tv.ownBlock ≠ some g7 := fun e => by have := (IN4.out.txs.1.lt g7 e).1; omega
                 obtain ⟨⟨c0, c1, c2⟩, f0, f1, f2⟩ := facts3c (m5.only.blk IN4.out.blk (fun e => htn e))
                 have ht9 : tv.ownBlock ≠ some g9 := fun e => by have := (IN2.out.txs.1.lt g9 e).2; omega
                 have B95 := Lib.hid (m5.only.blk B94.out (fun e => ht9 e))
                 obtain ⟨A5, cap5, cs5, htv5, _⟩ := o5.src (RX.fr TxR.fr)
                 obtain ⟨L5, hL5⟩ : ∃ L, ((three T j).take d ++ [t]).length = L := ⟨_, rfl⟩
                 rw [hL5] at htv5
                 have M5 := Lib.hid m5
                 clear o5 o5' m5 hL5
                 subst htv5)
              | fail)
            obtain ⟨w6, hw6⟩ : ∃ w6, w5.setCell ⟨g7, 2, none⟩ (.slice A5 L5 cap5) = w6 := ⟨_, rfl⟩
            have h56 : Only (· = g7) w5 w6 := by rw [← hw6]; exact (Only.refl (· = g7) w5).setCell (p := ⟨g7, 2, none⟩) (.inl rfl) _
            rw [hw6] at IN6 ⊢
            have h97 : g9 ≠ g7 := by have := HIN.out.blk.lt; have := HB2.out.size; omega
            have B96 := Lib.hid (h56.blk B95.out h97)
            have C96 := Lib.hid (And.intro (B96.out.cell 0) (B96.out.cell 1))
            have C71 := Lib.hid (IN6.out.blk.cell 1)
            have h26 : Only (fun x => tv.ownBlock = some x ∨ x = g7) w2 w6 := ((Only.of_below HB24.out _).trans M5.out.only (fun _ _ h => .inl h)).trans h56 (fun _ _ h => .inr h)
            have hw26 := Lib.hid h26.size
            have HTR6 : Hid (TxR w6 (fun b => wr.heap.size ≤ b ∧ b < w2.heap.size) [.int .i64 Tv, .slice A2 n2 cap2] t) := TxR.fr _ _ _ _ _ _ _ HTR.out h26 (fun b hb h => by
              have := HIN.out.blk.lt
              rcases h with h | h
              · have := (HIN.out.txs.1.lt b h).2; omega
              · omega) (fun _ h => h)
            have hk1 : IntKind.i64.wrap ((k : Int) + 1) = (k : Int) + 1 := IntWalk.i64_in _ (by omega)
            have HEN := entryOf_any _ (k + 1) _ t w6.drew (TxR.fr (fun _ => False) _ _ w6 w6.drew _ _ HTR6.out (Only.refl _ _).drew (fun _ _ h => h) (fun _ h => h)) (fun b hb => Nat.lt_of_lt_of_le hb.2 hw26.out) hOKt.out (by omega)
            rw [show (((k + 1 : Nat)) : Int) = (k : Int) + 1 by omega] at HEN
            have HEN := Lib.hid HEN
            refine wp_region_L 7 (fun W => W.cell? ⟨g7, 1, none⟩ = some ev) (fun W => W.cell? ⟨g9, 0, none⟩ = some (.int .i64 Tv) ∧ W.cell? ⟨g9, 1, none⟩ = some (.slice A2 n2 cap2)) (by kernel_rfl) C71.out C96.out (fun hTill => ?_)
            refine wpL_take' (i := 0) (oi := _) (v := ?_) rfl (by kernel_rfl) (by kernel_rfl) (by kernel_rfl) (by kernel_rfl) (fun _ _ _ h => h) (.inl ⟨by rfl, ?_⟩) (by assumption) ?_
            rotate_left
            · intro W hSw
              (try dsimp only at hSw)
              go_simp
              (try rfl)
            (try simp only [Act.put, List.getElem_toArray, List.getElem_cons_succ, List.getElem_cons_zero, List.setIfInBounds_toArray, List.set_cons_zero, List.set_cons_succ])
            refine wpL_take (i := 1) (oi := _) (v := ?_) rfl (by kernel_rfl) (by kernel_rfl) (by kernel_rfl) (by kernel_rfl) (fun _ _ _ h => h) (.inl ⟨by rfl, ?_⟩) (by assumption) ?_
            rotate_left
            · intro W hSw
              (try dsimp only at hSw)
              go_simp
              (try rfl)
            (try simp only [Act.put, List.getElem_toArray, List.getElem_cons_succ, List.getElem_cons_zero, List.setIfInBounds_toArray, List.set_cons_zero, List.set_cons_succ])
            refine wpL_take' (i := 2) (oi := _) (v := ?_) rfl (by kernel_rfl) (by kernel_rfl) (by kernel_rfl) (by kernel_rfl) (fun _ _ _ h => h) (.inl ⟨by rfl, ?_⟩) (by assumption) ?_
            rotate_left
            · intro W hSw
              (try dsimp only at hSw)
              go_simp
              (try rfl)
            (try simp only [Act.put, List.getElem_toArray, List.getElem_cons_succ, List.getElem_cons_zero, List.setIfInBounds_toArray, List.set_cons_zero, List.set_cons_succ])
            refine wpL_take' (i := 3) (oi := _) (v := ?_) rfl (by kernel_rfl) (by kernel_rfl) (by kernel_rfl) (by kernel_rfl) (fun _ _ _ h => h) (.inl ⟨by rfl, ?_⟩) (by assumption) ?_
            rotate_left
            · intro W hSw
              (try dsimp only at hSw)
              go_simp
              (try rfl)
            (try simp only [Act.put, List.getElem_toArray, List.getElem_cons_succ, List.getElem_cons_zero, List.setIfInBounds_toArray, List.set_cons_zero, List.set_cons_succ])
            refine wpL_take' (i := 4) (oi := _) (v := ?_) rfl (by kernel_rfl) (by kernel_rfl) (by kernel_rfl) (by kernel_rfl) (fun _ _ _ h => h) (.inl ⟨by rfl, ?_⟩) (by assumption) ?_
            rotate_left
            · intro W hSw
              (try dsimp only at hSw)
              go_simp
              (try rfl)
            (try simp only [Act.put, List.getElem_toArray, List.getElem_cons_succ, List.getElem_cons_zero, List.setIfInBounds_toArray, List.set_cons_zero, List.set_cons_succ])
            refine wpL_ready (rs := [5]) (by kernel_rfl) (by simp) ?_
            refine AllL.cons (o := _) rfl (fun K hK => ?_) AllL.nil
            go_simp
            refine HEN.out.mono ?_
            rintro e w7 ⟨A7, n7, cap7, rfl, hq⟩
            have hb7 : Below w6.heap.size w6 w7 := below_undrew hq.2.2.2.2
            have SL7 := Lib.hid (NB.slR hq (by simp [Pl.entryOf, Pl.entry, Pl.be_length]))
            have IN7 := Lib.hid (IN6.out.below hb7)
            have B97 := Lib.hid (B96.out.below hb7 B96.out.lt)
            have HB7 := Lib.hid hb7
            clear hq hb7
            go_wp2_with fail
            refine hK.out _ _ ⟨fun _ => IN7.out.blk.cell 1, B97.out.cell 0, B97.out.cell 1⟩ (fun hTill => ?_)
            clear hK K
            (try simp only [Act.put, List.getElem_toArray, List.getElem_cons_succ, List.getElem_cons_zero, List.setIfInBounds_toArray, List.set_cons_zero, List.set_cons_succ])
            obtain ⟨w8, hw8⟩ : ∃ w8, w7.alloc (.cells #[.slice A7 n7 cap7] 25) = w8 := ⟨_, rfl⟩
            have hb8 : Below w7.heap.size w7 w8 := by rw [← hw8]; exact (Below.refl _ _).alloc (Nat.le_refl _) _
            have S8 : Hid (Src w8 (some ⟨w7.heap.size, 0, none⟩) [.slice A7 n7 cap7]) := Src.of_blk (t := 25) (by rw [← hw8]; exact Blk.new w7 25 _)
            have IN8 := Lib.hid (IN7.out.below hb8)
            have B98 := Lib.hid (B97.out.below hb8 B97.out.lt)
            have h67 := HB7.out.size
            have R8 : Hid (RX (fun b => (Value.slice A5 L5 cap5).ownBlock = some b) SlR w8 (fun b => g7 + 1 ≤ b ∧ b < w8.heap.size ∧ ev.ownBlock ≠ some b) [.slice A7 n7 cap7] (Pl.entryOf (k + 1) t)) := by
              rw [Hid]
              unfold RX
              refine SlR.fr (fun _ => False) _ _ w7 w8 _ _ SL7.out (Only.of_below hb8 _) (fun _ _ h => h) (fun b hb => ?_)
              have h1 : w6.heap.size ≤ b := hb.1
              exact ⟨⟨by have := IN6.out.blk.lt; omega, Nat.lt_of_lt_of_le hb.2 hb8.size, fun e => by have := (IN6.out.ents.1.lt b e).2; omega⟩, fun e => by have := (IN6.out.txs.1.lt b e).2; omega⟩
            have L8 : Hid (((Pl.ents T j).take d).length ≤ 4294967296) := by rw [Hid, List.length_take]; omega
            have H18 : Hid (g7 + 1 ≤ w8.heap.size) := by rw [Hid]; have := hb8.size; have := IN6.out.blk.lt; omega
            clear hb8 h67
            refine wpL_ready (rs := [6]) (by kernel_rfl) (by simp) ?_
            refine AllL.cons (o := _) rfl (fun K hK => ?_) AllL.nil
            go_simp
            (try rw [hw8])
            refine hK.out _ _ ⟨fun _ => IN8.out.blk.cell 1, B98.out.cell 0, B98.out.cell 1⟩ (fun hTill => ?_)
            clear hK K
            (try simp only [Act.put, List.getElem_toArray, List.getElem_cons_succ, List.getElem_cons_zero, List.setIfInBounds_toArray, List.set_cons_zero, List.set_cons_succ])
            refine wpL_ready (rs := [7]) (by kernel_rfl) (by simp) ?_
            refine AllL.cons (o := _) rfl (fun K hK => ?_) AllL.nil
            refine step_ol (v := ev) (RX.fr SlR.fr) rfl (.tmp 41) (.tmp 46) 23 rfl Tryz.underlying23 HI.out.1 HI.out.2.1 HI.out.2.2.1 HI.out.2.2.2 rfl (by decide) rfl IN8.out.ents.1 (some ⟨w7.heap.size, 0, none⟩) 1 [.slice A7 n7 cap7] (Pl.entryOf (k + 1) t) rfl rfl S8.out (by simp; rfl) R8.out L8.out (by decide) H18.out ?_
            intro ev9 w9 o9 m9
            have o9' : OL 25 1 (RX (fun b => (Value.slice A5 L5 cap5).ownBlock = some b) SlR) w9 (g7 + 1) ev9 ((Pl.ents T j).take (d + 1)) := by
              rw [takeSnoc (ents_at T j d hd3), HAT.out, HI3.out, HKD.out]; exact o9
            have IN10 := Lib.hid (IN8.out.push_en m9 o9')
            have hen : ev.ownBlock ≠ some g7 := fun e => by have := (IN8.out.ents.1.lt g7 e).1; omega
            have he9 : ev.ownBlock ≠ some g9 := fun e => by have := (IN2.out.ents.1.lt g9 e).2; omega
            have B99 := Lib.hid (m9.only.blk B98.out (fun e => he9 e))
            have B79 := Lib.hid (m9.only.blk IN8.out.blk (fun e => hen e))
            obtain ⟨A9, cap9, cs9, hev9, _⟩ := o9.src (RX.fr SlR.fr)
            obtain ⟨L9, hL9⟩ : ∃ L, ((Pl.ents T j).take d ++ [Pl.entryOf (k + 1) t]).length = L := ⟨_, rfl⟩
            rw [hL9] at hev9
            clear o9 o9' m9 hL9
            subst hev9
            refine hK.out _ _ ⟨fun h => Bool.noConfusion ((show _ = true by kernel_rfl).symm.trans h), B99.out.cell 0, B99.out.cell 1⟩ (fun hTill => ?_)
            clear hK K
            (try simp only [Act.put, List.getElem_toArray, List.getElem_cons_succ, List.getElem_cons_zero, List.setIfInBounds_toArray, List.set_cons_zero, List.set_cons_succ])
            refine wpL_take' (i := 8) (oi := _) (v := ?_) rfl (by kernel_rfl) (by kernel_rfl) (by kernel_rfl) (by kernel_rfl) (fun _ _ _ h => h) (.inl ⟨by rfl, ?_⟩) (by assumption) ?_
            rotate_left
            · intro W hSw
              (try dsimp only at hSw)
              go_simp
              (try rfl)
            (try simp only [Act.put, List.getElem_toArray, List.getElem_cons_succ, List.getElem_cons_zero, List.setIfInBounds_toArray, List.set_cons_zero, List.set_cons_succ])
            refine wpL_ready (rs := [9]) (by kernel_rfl) (by simp) ?_
            refine AllL.cons (o := _) rfl (fun K hK => ?_) AllL.nil
            obtain ⟨⟨d0, d1, d2⟩, g0, g1, g2⟩ := facts3c B79.out
            go_simp
            obtain ⟨w10, hw10⟩ : ∃ w10, w9.setCell ⟨g7, 1, none⟩ (.slice A9 L9 cap9) = w10 := ⟨_, rfl⟩
            have h910 : Only (· = g7) w9 w10 := by rw [← hw10]; exact (Only.refl (· = g7) w9).setCell (p := ⟨g7, 1, none⟩) (.inl rfl) _
            have B910 := Lib.hid (h910.blk B99.out h97)
            rw [hw10] at IN10
            (try rw [hw10])
            refine hK.out _ _ ⟨fun h => Bool.noConfusion ((show _ = true by kernel_rfl).symm.trans h), B910.out.cell 0, B910.out.cell 1⟩ (fun hTill => ?_)
            clear hK K
            (try simp only [Act.put, List.getElem_toArray, List.getElem_cons_succ, List.getElem_cons_zero, List.setIfInBounds_toArray, List.set_cons_zero, List.set_cons_succ])
            refine wpL_done (by kernel_rfl) ?_ _
            clear hTill
            go_wp2_with fail
            refine ⟨⟨d + 1, _, _, by omega, ?_, IN10.out, ?_⟩, ?_⟩
            · have := HKD.out
              rw [show i + (d + 1) = k + 1 by omega]
              rfl
            · intro k' l' hk' hl'
              by_cases hkk : k' < i + d
              · exact HRE.out k' l' hkk hl'
              · have hke : k' = k := by have := HKD.out; omega
                subst hke
                rw [HL.out] at hl'
                injection hl' with hl'
                subst hl'
                rw [HRT.out]
                simp
            · have := HKD.out
              simp [intOf]
              omega
        · have hkd := HKD.out
          have hd3' : d = 3 := by omega
          subst hd3'
          have q2 : ¬ (k : Int) < (i : Int) + 3 := by omega
          have q2' : ((k : Int) < (i : Int) + 3) = False := by simpa using q2
          have IN := Lib.hid HIN.out
          have HOB := Lib.hid (HO.out.below (BkR.fr T) (by rw [hg7]; exact HIN.out.old))
          have K5w := Lib.hid (HK5.out.below HIN.out.old hs5)
          obtain ⟨Ae, ce, hev, hce, hbr⟩ := (HIN.out.ents.ol SlR.fr).br
          have hel : ((Pl.ents T j).take 3).length = 3 := rfl
          have htk : (Pl.ents T j).take 3 = Pl.ents T j := rfl
          rw [hel] at hev hce
          rw [htk] at hbr
          subst hev
          obtain ⟨At, ct, cst, htv, hct, hst, hrt, hpt⟩ := (HIN.out.txs.ol TxR.fr).src TxR.fr
          have htl : ((three T j).take 3).length = 3 := rfl
          have htk2 : (three T j).take 3 = three T j := rfl
          rw [htl] at htv hct
          rw [htk2] at hrt
          subst htv
          have HBR := Lib.hid hbr
          have HCE := Lib.hid hce
          have HCT := Lib.hid hct
          have HST := Lib.hid hst
          have HRT := Lib.hid hrt
          have HPT := Lib.hid hpt
          obtain ⟨Ao, co, cso, hu4, hco, _⟩ := HOB.out.src (BkR.fr T)
          rw [List.length_range] at hu4 hco
          subst hu4
          obtain ⟨h, hh⟩ : ∃ h, Pl.hashAt T j = h := ⟨_, rfl⟩
          have hhl : h < 4294967296 := by rw [← hh]; exact Nat.lt_trans (Pl.hashAt_lt T j) (by decide)
          have HHD := headerOf_any (j + 1) h (Pl.ents T j) Ae ce wr (by omega) hhl hbr.bb hce (by rw [Pl.ents_length]; omega)
          rw [Pl.ents_length, show Pl.header (j + 1) h (Pl.root (Pl.ents T j)) = Pl.hdr T j by rw [← hh]; rfl, show (((j + 1 : Nat)) : Int) = (j : Int) + 1 by omega] at HHD
          have HHD := Lib.hid HHD
          rw [hh] at K5w
          obtain ⟨z0, z1, z2, z3⟩ := facts_hash K5w.out
          obtain ⟨⟨c0, c1, c2⟩, f0, f1, f2⟩ := facts3c HIN.out.blk
          have HH := Lib.hid hh
          have hj1 : IntKind.i64.wrap ((j : Int) + 1) = (j : Int) + 1 := IntWalk.i64_in _ (by omega)
          clear hbr hce hct hst hrt hpt hel htk htl htk2 hh q2'
          unfold hashVal at HHD
          go_wp2_with fail
          refine HHD.out.mono ?_
          rintro e w2 ⟨Ah, nh, ch, rfl, hnh, hch, hbh, hph, hb2⟩
          have K7 := Lib.hid (IN.out.blk.below hb2 IN.out.blk.lt)
          have K5x := Lib.hid (K5w.out.below hb2 K5w.out.lt)
          have hnh13 : nh = 13 := by rw [← hnh]; exact Pl.header_length _ _ _
          have HPH := Lib.hid hph
          have HNH := Lib.hid hnh13
          have HNL := Lib.hid hnh
          have HCH := Lib.hid hch
          have HB2 := Lib.hid hb2
          obtain ⟨w3, hw3⟩ : ∃ w3, w2.setCell ⟨g7, 0, none⟩ (.slice Ah nh ch) = w3 := ⟨_, rfl⟩
          have ho3 : Only (· = g7) w2 w3 := by rw [← hw3]; exact (Only.refl (· = g7) w2).setCell (p := ⟨g7, 0, none⟩) (.inl rfl) _
          have K73 : Hid (Blk w3 g7 204 [.slice Ah nh ch, .slice Ae 3 ce, .slice At 3 ct]) := by rw [Hid, ← hw3]; exact K7.out.set_ 0 _
          have K53 := Lib.hid (ho3.blk K5x.out (by omega))
          have hby3 := Lib.hid (hbh.off K7.out (by simp) ho3)
          have HO3 := Lib.hid ho3
          clear z0 z1 z2 z3 c0 c1 c2 f0 f1 f2
          obtain ⟨⟨c0, c1, c2⟩, f0, f1, f2⟩ := facts3c K7.out
          obtain ⟨⟨d0, d1, d2⟩, _, _, _⟩ := facts3c K73.out
          have HHS := chainHash_any Ah ch (Pl.hdr T j) w3 hby3.out (by omega)
          obtain ⟨r, hr⟩ : ∃ r, Pl.sumN (Pl.hdr T j) = r := ⟨_, rfl⟩
          have HR : Hid (Pl.hashAt T (j + 1) = r) := by rw [Hid, ← hr]; rfl
          rw [hnh, hr] at HHS
          unfold hashVal at HHS
          have HHS := Lib.hid HHS
          clear hr
          clear hnh hch hbh hph hb2 ho3
          clear hnh13
          go_wp2_with fail
          refine HHS.out.mono ?_
          rintro e w4 ⟨rfl, hb4⟩
          have K74 := Lib.hid (K73.out.below hb4 K73.out.lt)
          have K54 := K53.out.below hb4 K53.out.lt
          obtain ⟨z0, z1, z2, z3, y0, y1, y2, y3⟩ := facts4 (a0 := .int .u8 ((h : Int) / 16777216)) (a1 := .int .u8 ((h : Int) / 65536 % 256)) (a2 := .int .u8 ((h : Int) / 256 % 256)) (a3 := .int .u8 ((h : Int) % 256)) K54
          have K55 := Blk.set4 (a0 := .int .u8 ((h : Int) / 16777216)) (a1 := .int .u8 ((h : Int) / 65536 % 256)) (a2 := .int .u8 ((h : Int) / 256 % 256)) (a3 := .int .u8 ((h : Int) % 256)) K54 (.int .u8 ((r : Int) / 16777216)) (.int .u8 ((r : Int) / 65536 % 256)) (.int .u8 ((r : Int) / 256 % 256)) (.int .u8 ((r : Int) % 256))
          have ho5 := only_set4 (Only.refl (· = g5) w4) (g := g5) (.inl rfl) (.int .u8 ((r : Int) / 16777216)) (.int .u8 ((r : Int) / 65536 % 256)) (.int .u8 ((r : Int) / 256 % 256)) (.int .u8 ((r : Int) % 256))
          obtain ⟨w5, hw5⟩ : ∃ w5, (((w4.setCell ⟨g5, 0, none⟩ (.int .u8 ((r : Int) / 16777216))).setCell ⟨g5, 1, none⟩ (.int .u8 ((r : Int) / 65536 % 256))).setCell ⟨g5, 2, none⟩ (.int .u8 ((r : Int) / 256 % 256))).setCell ⟨g5, 3, none⟩ (.int .u8 ((r : Int) % 256)) = w5 := ⟨_, rfl⟩
          rw [hw5] at K55 ho5
          have hall := (((Only.of_below HB2.out (fun x => x = g7 ∨ x = g5)).trans HO3.out (fun _ _ h => .inl h)).below hb4).trans ho5 (fun _ _ h => .inr h)
          have K75 := Lib.hid (ho5.blk K74.out (by omega))
          have hby5 := Lib.hid (ho5.bytes (hby3.out.keep hb4) (fun p hp e => by have := (HPH.out p hp).1; have := IN.out.blk.lt; omega))
          have K55 := Lib.hid K55
          have HALL := Lib.hid hall
          have hs5' := hall.size
          obtain ⟨w6, hw6⟩ : ∃ w6, w5.alloc (.cells #[.slice Ah nh ch, .slice Ae 3 ce, .slice At 3 ct] 204) = w6 := ⟨_, rfl⟩
          have hb6 : Below w5.heap.size w5 w6 := by rw [← hw6]; exact (Below.refl _ _).alloc (Nat.le_refl _) _
          have S6 : Hid (Src w6 (some ⟨w5.heap.size, 0, none⟩) [.slice Ah nh ch, .slice Ae 3 ce, .slice At 3 ct]) := Src.of_blk (t := 204) (by rw [← hw6]; exact Blk.new w5 204 _)
          have hall6 := hall.below hb6
          have halls : Only (fun x => x = g7 ∨ x = g5) ws w6 := (Only.of_below (by rw [hg7]; exact IN.out.old) _).trans hall6 (fun _ _ h => h)
          have O6 := Lib.hid (HO.out.only (BkR.fr T) halls (fun x hx hlt h => by omega))
          have HBW6 : Hid (Below g5 w w6) := (HB.out.trans (IN.out.old.mono (by omega))).trans (hall6.toBelow (by have := IN.out.blk.lt; omega) (fun k hk h => by omega))
          have R6 : Hid (BkR T w6 (fun b => g5 + 1 ≤ b ∧ b < w6.heap.size ∧ (Value.slice Ao j co).ownBlock ≠ some b) [.slice Ah nh ch, .slice Ae 3 ce, .slice At 3 ct] j) := by
            have hP : ∀ b, (g7 + 1 ≤ b ∧ b < wr.heap.size) → (g5 + 1 ≤ b ∧ b < w6.heap.size ∧ (Value.slice Ao j co).ownBlock ≠ some b) := fun b hb => ⟨by omega, Nat.lt_of_lt_of_le hb.2 hall6.size, fun e => by have := (HO.out.lt b e).2; omega⟩
            have hF : ∀ b, (g7 + 1 ≤ b ∧ b < wr.heap.size) → ¬ (b = g7 ∨ b = g5) := fun b hb h => by omega
            refine ⟨Ah, nh, ch, Ae, ce, At, ct, cst, rfl, HNH.out, by have := HCH.out; have := HNH.out; omega, HCE.out, HCT.out, hby5.out.keep hb6, (HBR.out.only hall6 hF).mono hP, hall6.src HST.out (fun p hp => hF _ (HPT.out p hp)), HRT.out.mono (fun _ _ _ hx => TxR.fr _ _ _ _ _ _ _ hx hall6 hF hP), fun p hp => ?_, fun p hp => hP _ (HPT.out p hp)⟩
            have h1 := HPH.out p hp
            have h2 := IN.out.blk.lt
            have h3 := HO3.out.size
            have h4 := hb4.size
            have h5 := ho5.size
            have h6 := hb6.size
            exact ⟨by omega, by omega, fun e => by have := (HO.out.lt _ e).2; omega⟩
          have L6 : Hid ((List.range j).length ≤ 4294967296) := by rw [Hid, List.length_range]; omega
          have H16 : Hid (g5 + 1 ≤ w6.heap.size) := by rw [Hid]; have := hb6.size; have := IN.out.blk.lt; omega
          have K56 := Lib.hid (K55.out.below hb6 K55.out.lt)
          clear hb4 K54 ho5 hall hall6 halls hb6 hs5'
          obtain ⟨⟨x0, x1, x2⟩, _, _, _⟩ := facts3c K75.out
          go_wp2_with (first
            | (at_builtin
               refine wpList_ol (v := .slice Ao j co) (BkR.fr T) rfl (.tmp 60) (.tmp 62) 196 rfl Tryz.underlying196 HK.out.1 HK.out.2.1 HK.out.2.2.1 HK.out.2.2.2 rfl (by decide) rfl O6.out (some ⟨w5.heap.size, 0, none⟩) 1 [.slice Ah nh ch, .slice Ae 3 ce, .slice At 3 ct] j rfl rfl S6.out (by simp; exact ⟨rfl, rfl, rfl⟩) R6.out L6.out (by decide) H16.out ?_
               intro v7 w7 o7 m7
               have O7 : Hid (OL 204 3 (BkR T) w7 (g5 + 1) v7 (List.range (j + 1))) := by rw [Hid, List.range_succ]; exact o7
               have M7 := Lib.hid m7
               clear o7 m7)
            | fail)
          have hne5 : (Value.slice Ao j co).ownBlock ≠ some g5 := fun e => by have := (O6.out.lt g5 e).1; omega
          have hI := HI3.out
          refine ⟨⟨j + 1, by omega, by rw [show 3 * (j + 1) = i + 3 by omega]; rfl, O7.out, ?_, HBW6.out.trans (M7.out.only.toBelow (by have := H16.out; omega) (fun k hk e => by have := (O6.out.lt k e).1; omega)), ?_⟩, by simp [intOf]; omega⟩
          · have := M7.out.only.blk K56.out (fun e => hne5 e)
            rw [HR.out]
            exact this
          · intro k' l' hk' hl'
            exact HRE.out k' l' (by omega) hl'
    · have hjN' : j = N := by omega
      subst hjN'
      have q1 : ¬ (i : Int) < (n : Int) := by omega
      have hsz : w.heap.size ≤ g5 := by omega
      clear hi
      go_wp2_with fail
      go_ret2
      refine .inr ⟨fun l hl => ?_, _, rfl, ?_, HB.out.mono hsz⟩
      · obtain ⟨k', hk'⟩ := List.mem_iff_getElem?.1 hl
        have hlt := (List.getElem?_eq_some_iff.1 hk').1
        exact HRD.out k' l (by have := HN2.out; have := HI3.out; omega) hk'
      · rw [HT.out, HN.out]
        exact HO.out.low (BkR.fr T) (by omega)
end Go.Proofs.YtljmklohgpaopaaGreatDoor

namespace Go.Proofs.YtljmklohgpaopaaGreatDoor
open Go.RowKit

/-- Blocks as they are read. -/
def BksAt (lo : Nat) (w : World) (B : Nat) (A : Option Addr) (T : List Pl.Txn) (N : Nat) : Prop := ∃ cs, Src w A cs ∧ RowsR 3 (BkR T w (fun b => lo ≤ b ∧ b < B)) cs (List.range N) ∧ ∀ p, A = some p → p.block < B
theorem BksAt.keep {lo : Nat} {w w' : World} {B N : Nat} {A : Option Addr} {T : List Pl.Txn} (h : BksAt lo w B A T N) (hb : Below B w w') : BksAt lo w' B A T N := by
  obtain ⟨cs, h1, h2, h3⟩ := h
  have ho : Only (fun b => B ≤ b) w w' := ⟨hb.os, hb.tape, hb.output, hb.size, fun k _ hn => hb.block k (by omega)⟩
  exact ⟨cs, ho.src h1 (fun p hp h => by have := h3 p hp; omega), h2.mono (fun _ _ _ hx => BkR.fr T _ _ _ _ _ _ _ hx ho (fun b hb h => by have : b < B := hb.2; omega) (fun _ h => h)), h3⟩
theorem OL.bks {w : World} {base N : Nat} {v : Value} {T : List Pl.Txn} (h : OL 204 3 (BkR T) w base v (List.range N)) : ∃ A cap, v = .slice A N cap ∧ N ≤ cap ∧ BksAt base w w.heap.size A T N := by
  obtain ⟨A, cap, cs, rfl, h1, h2, h3, h4⟩ := h.src (BkR.fr T)
  rw [List.length_range] at h1
  exact ⟨A, cap, by rw [List.length_range], h1, cs, h2, h3.mono (fun _ _ _ hx => BkR.fr T (fun _ => False) _ _ _ _ _ _ hx (Only.refl _ _) (fun _ _ h => h) (fun b hb => hb)), fun p hp => (h4 p hp).2⟩
theorem BksAt.more {lo : Nat} {w : World} {B B' N : Nat} {A : Option Addr} {T : List Pl.Txn} (h : BksAt lo w B A T N) (hb : B ≤ B') : BksAt lo w B' A T N := by
  obtain ⟨cs, h1, h2, h3⟩ := h
  exact ⟨cs, h1, h2.mono (fun _ _ _ hx => BkR.fr T (fun _ => False) _ _ _ _ _ _ hx (Only.refl _ _) (fun _ _ h => h) (fun b hb' => ⟨hb'.1, Nat.lt_of_lt_of_le hb'.2 hb⟩)), fun p hp => by have := h3 p hp; omega⟩
/-- What is read of one block. -/
structure BkAt (lo : Nat) (w : World) (B : Nat) (T : List Pl.Txn) (i b off : Nat) (Ah : Option Addr) (ch : Nat) (Ae : Option Addr) (ce : Nat) (At : Option Addr) (ct : Nat) : Prop where
  c0 : w.cell? ⟨b, off + i * 3, none⟩ = some (.slice Ah 13 ch)
  c1 : w.cell? ⟨b, off + i * 3 + 1, none⟩ = some (.slice Ae 3 ce)
  c2 : w.cell? ⟨b, off + i * 3 + 2, none⟩ = some (.slice At 3 ct)
  hd : BytesAt w Ah (Pl.hdr T i)
  hlo : ∀ p, Ah = some p → lo ≤ p.block
  h13 : 13 ≤ ch
  he : 3 ≤ ce
  ht : 3 ≤ ct
  ents : BR w (· < B) Ae (Pl.ents T i)
  txs : ∃ cs, Src w At cs ∧ RowsR 2 (TxR w (· < B)) cs (three T i)
theorem BksAt.at_ {lo : Nat} {w : World} {B N i : Nat} {A : Option Addr} {T : List Pl.Txn} (h : BksAt lo w B A T N) (hi : i < N) : ∃ b off Ah ch Ae ce At ct, A = some ⟨b, off, none⟩ ∧ BkAt lo w B T i b off Ah ch Ae ce At ct := by
  obtain ⟨cs, h1, h2, h3⟩ := h
  obtain ⟨c, ⟨Ah, nh, ch, Ae, ce, At, ct, cst, rfl, rfl, a1, a2, a3, a4, a5, a6, a7, a8, a9⟩, _, hc⟩ := h2.at_ (k := i) (x := i) (by simp [hi])
  have e0 := hc 0 (by omega)
  have e1 := hc 1 (by omega)
  have e2 := hc 2 (by omega)
  simp only [List.getElem?_cons_zero, List.getElem?_cons_succ] at e0 e1 e2
  obtain ⟨b, off, rfl, g0⟩ := h1.at_ _ _ e0
  have g1 := h1.cell _ _ e1
  have g2 := h1.cell _ _ e2
  rw [Nat.add_zero] at g0
  rw [← Nat.add_assoc] at g1 g2
  exact ⟨b, off, Ah, ch, Ae, ce, At, ct, rfl, g0, g1, g2, a4, fun p hp => (a8 p hp).1, a1, a2, a3, a5.mono (fun _ h => h.2), cst, a6, a7.mono (fun _ _ _ h => h.mono (fun _ h => h.2))⟩
/-- The cells of one transaction of a block. -/
theorem BkAt.tx {lo : Nat} {w : World} {B : Nat} {T : List Pl.Txn} {i b off : Nat} {Ah : Option Addr} {ch : Nat} {Ae : Option Addr} {ce : Nat} {At : Option Addr} {ct : Nat} (h : BkAt lo w B T i b off Ah ch Ae ce At ct) {d : Nat} (hd : d < 3) :
    ∃ bt ot v0 v1, At = some ⟨bt, ot, none⟩ ∧ w.cell? ⟨bt, ot + d * 2, none⟩ = some v0 ∧ w.cell? ⟨bt, ot + d * 2 + 1, none⟩ = some v1 ∧ TxR w (· < B) [v0, v1] (Pl.txAt T (3 * i + d)) := by
  obtain ⟨cs, h1, h2⟩ := h.txs
  obtain ⟨c, hx, _, hc⟩ := h2.at_ (three_at T i d hd)
  obtain ⟨A, cap, cs', rfl, hh⟩ := hx
  have e0 := hc 0 (by omega)
  have e1 := hc 1 (by omega)
  simp only [List.getElem?_cons_zero, List.getElem?_cons_succ] at e0 e1
  obtain ⟨bt, ot, rfl, g0⟩ := h1.at_ _ _ e0
  have g1 := h1.cell _ _ e1
  rw [Nat.add_zero] at g0
  rw [← Nat.add_assoc] at g1
  exact ⟨bt, ot, _, _, rfl, g0, g1, A, cap, cs', rfl, hh⟩
def errK (k : Nat) : Value := .iface 26 (.int .i64 (k : Int))
def ClashPost (w : World) (ls ms : List (List UInt8)) (e : Ending) (w' : World) : Prop :=
  Below w.heap.size w w' ∧
  ((¬ (ls.length = ms.length ∧ ls.length ≠ 0 ∧ ls.length % 3 = 0 ∧ (∀ l ∈ ls, Pl.readTx l ≠ none) ∧ ∀ l ∈ ms, Pl.readTx l ≠ none) ∧ e = .returned (.tuple #[.slice none 0 0, .slice none 0 0, errK 20])) ∨
   (ls.length = ms.length ∧ ls.length ≠ 0 ∧ ls.length % 3 = 0 ∧ (∀ l ∈ ls, Pl.readTx l ≠ none) ∧ (∀ l ∈ ms, Pl.readTx l ≠ none) ∧
     (((Pl.hashAt (txsOf ls) (ls.length / 3) ≠ Pl.hashAt (txsOf ms) (ls.length / 3) ∨ Pl.clashDown (txsOf ls) (txsOf ms) (ls.length / 3) = none) ∧ e = .returned (.tuple #[.slice none 0 0, .slice none 0 0, errK 21])) ∨
      (Pl.hashAt (txsOf ls) (ls.length / 3) = Pl.hashAt (txsOf ms) (ls.length / 3) ∧ ∃ x y xv yv, Pl.clashDown (txsOf ls) (txsOf ms) (ls.length / 3) = some (x, y) ∧ Kept w.heap.size w' xv (some x) ∧ Kept w.heap.size w' yv (some y) ∧ e = .returned (.tuple #[xv, yv, .nilIface]))))) 
end Go.Proofs.YtljmklohgpaopaaGreatDoor

namespace Go.Proofs.YtljmklohgpaopaaGreatDoor
open Go.RowKit

set_option maxHeartbeats 1000000 in
set_option maxRecDepth 100000 in
theorem clash_shape (n m : Nat) (ls ms : List (List UInt8)) (A B : Option Addr) (cap cap2 : Nat) (w : World) (hn : ls.length = n) (hm : ms.length = m) (hn1 : n ≤ 1048576) (hm1 : m ≤ 1048576) (hbad : ¬ (n = m ∧ n ≠ 0 ∧ n % 3 = 0)) :
    Calls Tryz.prog 66 #[.slice A n cap, .slice B m cap2] w (ClashPost w ls ms) := by
  have hpost : ClashPost w ls ms (.returned (.tuple #[.slice none 0 0, .slice none 0 0, errK 20])) w := by
    refine ⟨Below.refl _ _, .inl ⟨fun h => hbad ?_, rfl⟩⟩
    rw [hn, hm] at h
    exact ⟨h.1, h.2.1, h.2.2.1⟩
  have HP := Lib.hid hpost
  unfold errK at HP
  clear hpost hn hm
  by_cases h1 : n = m
  · by_cases h2 : n = 0
    · subst h1 h2
      have q1 : (((0 : Nat) : Int) != ((0 : Nat) : Int)) = false := rfl
      clear hbad hn1 hm1
      go_enter Tryz.func66, Tryz.ntmps66
      go_wp2_with fail
      go_ret3
      exact HP.out
    · have h3 : n % 3 ≠ 0 := fun h => hbad ⟨h1, h2, h⟩
      have q1 : ((n : Int) != (m : Int)) = false := by rw [h1]; simp
      have q2 : ((n : Int) == 0) = false := beq_eq_false_iff_ne.2 (by omega)
      have q3 : ((n : Int) % 3 != 0) = true := by simp; omega
      have q4 : ((n : Int).tmod 3 != 0) = true := by rw [Int.tmod_eq_emod_of_nonneg (by omega)]; exact q3
      clear hbad h1 h2 h3
      go_enter Tryz.func66, Tryz.ntmps66
      go_wp2_with fail
      go_ret3
      exact HP.out
  · have q1 : ((n : Int) != (m : Int)) = true := by simp; omega
    clear hbad h1
    go_enter Tryz.func66, Tryz.ntmps66
    go_wp2_with fail
    go_ret3
    exact HP.out
end Go.Proofs.YtljmklohgpaopaaGreatDoor
