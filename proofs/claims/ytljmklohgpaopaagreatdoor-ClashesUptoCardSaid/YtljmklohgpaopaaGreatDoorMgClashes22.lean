/- daybook.Clash and plain.Clash. What the law Clashes needs ahead of its walk. The law Clashes walked: it returns true. -/
import Derived.Test.YtljmklohgpaopaaGreatDoorMgClashes21
import Derived.Test.YtljmklohgpaopaaGreatDoorMgClashes6
set_option linter.unusedVariables false
set_option linter.unusedSimpArgs false

namespace Go.Proofs.YtljmklohgpaopaaGreatDoor
open Go.RowKit

/-- May payloads be compared? -/
def Comp (ls ms : List (List UInt8)) : Prop := ls.length = ms.length ∧ ls.length ≠ 0 ∧ ls.length % 3 = 0 ∧ (∀ l ∈ ls, Pl.readTx l ≠ none) ∧ ∀ l ∈ ms, Pl.readTx l ≠ none
/-- What Clash answers. -/
def CRes (lo : Nat) (W : World) (ls ms : List (List UInt8)) (av bv : Value) (k : Nat) : Prop :=
  (¬ Comp ls ms ∧ av = .slice none 0 0 ∧ bv = .slice none 0 0 ∧ k = 20) ∨
  (Comp ls ms ∧ (((Pl.hashAt (txsOf ls) (ls.length / 3) ≠ Pl.hashAt (txsOf ms) (ls.length / 3) ∨ Pl.clashDown (txsOf ls) (txsOf ms) (ls.length / 3) = none) ∧ av = .slice none 0 0 ∧ bv = .slice none 0 0 ∧ k = 21) ∨
    (Pl.hashAt (txsOf ls) (ls.length / 3) = Pl.hashAt (txsOf ms) (ls.length / 3) ∧ ∃ x y, Pl.clashDown (txsOf ls) (txsOf ms) (ls.length / 3) = some (x, y) ∧ Kept lo W av (some x) ∧ Kept lo W bv (some y) ∧ k = 0)))
theorem CRes.keep {lo : Nat} {W W' : World} {ls ms : List (List UInt8)} {av bv : Value} {k : Nat} (h : CRes lo W ls ms av bv k) (hk : ∀ b off l, lo ≤ b → BytesAt W (some ⟨b, off, none⟩) l → BytesAt W' (some ⟨b, off, none⟩) l) : CRes lo W' ls ms av bv k := by
  rcases h with h | ⟨h0, h | ⟨h1, x, y, h2, h3, h4, h5⟩⟩
  · exact .inl h
  · exact .inr ⟨h0, .inl h⟩
  · refine .inr ⟨h0, .inr ⟨h1, x, y, h2, ?_, ?_, h5⟩⟩
    · obtain ⟨b, off, n, cap, g1, g2, g3, g4, g5, g6⟩ := h3
      exact ⟨b, off, n, cap, g1, g2, g3, g4, g5, hk b off _ g5 g6⟩
    · obtain ⟨b, off, n, cap, g1, g2, g3, g4, g5, g6⟩ := h4
      exact ⟨b, off, n, cap, g1, g2, g3, g4, g5, hk b off _ g5 g6⟩
theorem CRes.slices {lo : Nat} {W : World} {ls ms : List (List UInt8)} {av bv : Value} {k : Nat} (h : CRes lo W ls ms av bv k) : (∃ A n c, av = .slice A n c) ∧ ∃ A n c, bv = .slice A n c := by
  rcases h with ⟨_, h1, h2, _⟩ | ⟨h0, ⟨_, h1, h2, _⟩ | ⟨h1, x, y, h2, ⟨b, off, n, cap, g1, _⟩, ⟨b', off', n', cap', g2, _⟩, h5⟩⟩
  · exact ⟨⟨_, _, _, h1⟩, _, _, _, h2⟩
  · exact ⟨⟨_, _, _, h1⟩, _, _, _, h2⟩
  · exact ⟨⟨_, _, _, g1⟩, _, _, _, g2⟩
def DayClash (w : World) (ls ms : List (List UInt8)) (e : Ending) (w' : World) : Prop :=
  ∃ av bv ev k, e = .returned (.tuple #[av, bv, ev]) ∧ ErrV w' ev k ⟨#[]⟩ ∧ k ≤ 21 ∧ CRes w.heap.size w' ls ms av bv k ∧ Below w.heap.size w w'
theorem ClashPost.day {w w' : World} {ls ms : List (List UInt8)} {e : Ending} (h : ClashPost w ls ms e w') : DayClash w ls ms e w' := by
  obtain ⟨hb, h⟩ := h
  rcases h with ⟨h1, rfl⟩ | ⟨h1, h2, h3, h4, h5, h | ⟨h6, x, y, xv, yv, h7, h8, h9, rfl⟩⟩
  · exact ⟨_, _, _, 20, rfl, ErrV.kind w' 20, by omega, .inl ⟨h1, rfl, rfl, rfl⟩, hb⟩
  · obtain ⟨h6, rfl⟩ := h
    exact ⟨_, _, _, 21, rfl, ErrV.kind w' 21, by omega, .inr ⟨⟨h1, h2, h3, h4, h5⟩, .inl ⟨h6, rfl, rfl, rfl⟩⟩, hb⟩
  · exact ⟨_, _, _, 0, rfl, ErrV.nil w', by omega, .inr ⟨⟨h1, h2, h3, h4, h5⟩, .inr ⟨h6, x, y, h7, h8, h9, rfl⟩⟩, hb⟩
theorem dayClash_any (n m : Nat) (ls ms : List (List UInt8)) (A B : Option Addr) (cap cap2 : Nat) (w : World) (hA : BR w (· < w.heap.size) A ls) (hB : BR w (· < w.heap.size) B ms) (hn : ls.length = n) (hm : ms.length = m) (hn1 : n ≤ 1048576) (hm1 : m ≤ 1048576) (hc1 : n ≤ cap) (hc2 : m ≤ cap2) :
    Calls Tryz.prog 34 #[.slice A n cap, .slice B m cap2] w (DayClash w ls ms) := by
  have HC := Lib.hid (clash_any n m ls ms A B cap cap2 w hA hB hn hm hn1 hm1 hc1 hc2)
  clear hA hB hn hm
  go_enter Tryz.func34, Tryz.ntmps34
  go_wp2_with fail
  refine HC.out.mono ?_
  intro e w1 h
  obtain ⟨av, bv, ev, k, rfl, h1, h2, h3, h4⟩ := h.day
  have H := Lib.hid (And.intro h1 (And.intro h2 (And.intro h3 h4)))
  clear h h1 h2 h3 h4
  go_wp2_with fail
  go_ret3
  exact ⟨av, bv, ev, k, rfl, H.out⟩
theorem results_clash {fn : Func} {t s u : Tmp} {tmps : Array Value} {w : World} {g : Nat} {a b x y z : Value} (h : fn.results = #[.tmp t, .tmp s, .cell u 28]) (hu : tmps.getD u undef = .pointer (some ⟨g, 0, none⟩)) (ht : tmps.getD t undef = a) (hs : tmps.getD s undef = b) (hB : Blk w g 28 [x, y, z]) :
    (results fn tmps).run Tryz.prog w = .ok (.tuple #[a, b, .agg #[x, y, z]]) w := by
  have c0 := hB.cell 0
  have c1 := hB.cell 1
  have c2 := hB.cell 2
  simp only [List.getElem?_cons_succ, List.getElem?_cons_zero] at c0 c1 c2
  simp only [Array.getD_eq_getD_getElem?] at hu ht hs
  simp [results, h, ht, hs, hu, go_sem, c0, c1, c2, asAddr]
def PlainClash (w : World) (ls ms : List (List UInt8)) (e : Ending) (w' : World) : Prop :=
  ∃ av bv k, e = .returned (.tuple #[av, bv, errA (k : Nat) ⟨#[]⟩]) ∧ CRes w.heap.size w' ls ms av bv k ∧ Below w.heap.size w w'
set_option maxHeartbeats 1000000 in
theorem plainClash_any (n m : Nat) (ls ms : List (List UInt8)) (A B : Option Addr) (cap cap2 : Nat) (w : World) (hG : GE w) (hA : BR w (· < w.heap.size) A ls) (hB : BR w (· < w.heap.size) B ms) (hn : ls.length = n) (hm : ms.length = m) (hn1 : n ≤ 1048576) (hm1 : m ≤ 1048576) (hc1 : n ≤ cap) (hc2 : m ≤ cap2) :
    Calls Tryz.prog 8 #[.slice A n cap, .slice B m cap2] w (PlainClash w ls ms) := by
  obtain ⟨g6, hg6⟩ : ∃ g, w.heap.size = g := ⟨_, rfl⟩
  obtain ⟨w0, hw0⟩ : ∃ w0, w.alloc (.cells #[.int .i64 0, .string ⟨#[]⟩, .bool false] 28) = w0 := ⟨_, rfl⟩
  have hb0 : Below w.heap.size w w0 := by rw [← hw0]; exact below_alloc _ _
  have B0 : Blk w0 g6 28 [.int .i64 0, .string ⟨#[]⟩, .bool false] := by rw [← hw0, ← hg6]; exact Blk.new w 28 _
  have hs0 : w0.heap.size = w.heap.size + 1 := by rw [← hw0]; simp
  have HC := Lib.hid (dayClash_any n m ls ms A B cap cap2 w0 ((hA.keepB hb0 (fun _ h => h)).mono (fun b (hb : b < w.heap.size) => by show b < w0.heap.size; omega)) ((hB.keepB hb0 (fun _ h => h)).mono (fun b (hb : b < w.heap.size) => by show b < w0.heap.size; omega)) hn hm hn1 hm1 hc1 hc2)
  have HB0 := Lib.hid hb0
  have HK0 := Lib.hid B0
  have HG := Lib.hid hG
  clear hA hB hn hm hb0 B0
  go_enter Tryz.func8, Tryz.ntmps8
  go_wp2_with fail
  refine HC.out.mono ?_
  rintro e w1 ⟨av, bv, ev, k, rfl, h1, h2, h3, h4⟩
  have HT := Lib.hid (told_any ev k ⟨#[]⟩ w1 (HG.out.below (HB0.out.trans (h4.mono HB0.out.size))) h1 h2)
  have HR := Lib.hid h3
  have HB1 := Lib.hid h4
  clear h1 h2 h3 h4
  go_wp2_with fail
  refine HT.out.mono ?_
  rintro e w2 ⟨rfl, hb2⟩
  have hb12 := HB1.out.trans (hb2.mono HB1.out.size)
  have B2 := HK0.out.below hb12 HK0.out.lt
  obtain ⟨c0, c1, c2, f0, f1, f2⟩ := facts3 B2
  have HR2 := Lib.hid (HR.out.keep (W' := w2) (fun b off l _ h => h.keep hb2))
  obtain ⟨w3, hw3⟩ : ∃ W, ((w2.setCell ⟨g6, 0, none⟩ (.int .i64 (k : Int))).setCell ⟨g6, 1, none⟩ (.string ⟨#[]⟩)).setCell ⟨g6, 2, none⟩ (.bool true) = W := ⟨_, rfl⟩
  have HB3 := Lib.hid (show Blk w3 g6 28 [.int .i64 (k : Int), .string ⟨#[]⟩, .bool true] by rw [← hw3]; exact ((B2.set_ 0 _).set_ 1 _).set_ 2 _)
  have HO3 : Hid (Only (· = g6) w2 w3) := by
    rw [Hid, ← hw3]
    exact ((((Only.refl (· = g6) w2).setCell (p := ⟨g6, 0, none⟩) (.inl rfl) _).setCell (p := ⟨g6, 1, none⟩) (.inl rfl) _).setCell (p := ⟨g6, 2, none⟩) (.inl rfl) _)
  have HB2 := Lib.hid (HB0.out.trans (hb12.mono HB0.out.size))
  obtain ⟨⟨A1, n1, c1', rfl⟩, A2, n2, c2', rfl⟩ := HR.out.slices
  clear hb2 hb12 B2
  go_wp2_with fail
  refine bodyPost_ret (results_clash rfl rfl rfl rfl HB3.out) rfl ⟨_, _, k, rfl, ?_, ?_⟩
  · have h9 := HR2.out.keep (W' := w3) (fun b off l hb h => HO3.out.bytes h (fun p hp e => by cases hp; have e' : b = g6 := e; have := HK0.out.lt; omega))
    rcases h9 with h | ⟨h0, h | ⟨h1, x, y, h2, h3, h4, h5⟩⟩
    · exact .inl h
    · exact .inr ⟨h0, .inl h⟩
    · exact .inr ⟨h0, .inr ⟨h1, x, y, h2, h3.low (by omega), h4.low (by omega), h5⟩⟩
  · exact HB2.out.trans (HO3.out.toBelow HB2.out.size (fun k hk e => by omega))
end Go.Proofs.YtljmklohgpaopaaGreatDoor

namespace Go.Proofs.YtljmklohgpaopaaGreatDoor
open Go.RowKit

theorem tstr_of (s : ByteArray) : tstr s.data.toList = s := by
  cases s
  simp [tstr]
theorem sv_bl (ss : List ByteArray) : sv ss = (bl ss).map fun l => .string (tstr l) := by
  unfold sv bl
  rw [List.map_map]
  exact List.map_congr_left fun s _ => by simp [tstr_of]
theorem bl_length (ss : List ByteArray) : (bl ss).length = ss.length := by simp [bl]
theorem strSrc_of {w : World} {A : Option Addr} {ss : List ByteArray} (h : Src w A (sv ss)) (hsz : ∀ s ∈ ss, s.size ≤ 140737488351232) : StrSrc w A (bl ss) := by
  refine ⟨by rw [← sv_bl]; exact h, fun l hl => ?_⟩
  obtain ⟨s, hs, rfl⟩ := List.mem_map.1 hl
  exact hsz s hs
theorem lentRow_at {w : World} {g : Nat} {l : List UInt8} (h : Blk w g 5 (lentRow l)) : BytesAt w (some ⟨g, 0, none⟩) l := by
  refine .inr ⟨g, 0, rfl, fun i hi => ?_⟩
  rw [Nat.zero_add, h.cell, lentRow, bv_append, List.getElem?_append_left (by simpa using hi), getb _ i hi]
theorem Lent.br {w : World} {base n cap : Nat} {gs : List Nat} {ss : List ByteArray} {A : Option Addr} (h : Lent w base (.slice A n cap) gs ss) (hsz : ∀ s ∈ ss, s.size ≤ 140737488351232) : BR w (· < w.heap.size) A (bl ss) := by
  obtain ⟨A', cap', e, _, hsrc, hb⟩ := own_src h.own
  injection e with e
  subst e
  have hll : (lc gs ss).length = ss.length := by have := h.own.1; simpa using this
  refine ⟨lc gs ss, hsrc, ⟨by rw [hll, bl_length, Nat.one_mul], fun k x hk => ?_⟩, fun p hp => (h.own.lt _ (hb p hp)).2⟩
  have hk' := hk
  unfold bl at hk'
  rw [List.getElem?_map, Option.map_eq_some_iff] at hk'
  obtain ⟨s, hs, rfl⟩ := hk'
  obtain ⟨hlt, _⟩ := List.getElem?_eq_some_iff.1 hs
  obtain ⟨g, hg⟩ : ∃ g, gs[k]? = some g := ⟨gs[k]'(by rw [h.len]; exact hlt), List.getElem?_eq_getElem _⟩
  have hB := h.blk k g s hg hs
  have hc := lc_get hg hs
  have hlk : k < (lc gs ss).length := by rw [hll]; exact hlt
  rw [List.getElem?_eq_getElem hlk, Option.some.injEq] at hc
  rw [Nat.one_mul, List.drop_eq_getElem_cons hlk, List.take_succ_cons, List.take_zero, hc]
  exact ⟨some ⟨g, 0, none⟩, s.size + 2, rfl, by show s.size ≤ s.size + 2; omega, hsz s (List.mem_of_getElem? hs), lentRow_at hB, fun p hp => by cases hp; exact hB.lt⟩
theorem parts_self : ∀ (l : List (List UInt8)), Pl.parts l l = none
  | [] => rfl
  | a :: r => by simp only [Pl.parts]; rw [if_pos trivial]; exact parts_self r
theorem clashDown_self (P : List Pl.Txn) : ∀ n, Pl.clashDown P P n = none
  | 0 => rfl
  | n + 1 => by
    rw [clashDown_succ, clashAt_none rfl (parts_self _) (fun d' _ => parts_self _)]
    exact clashDown_self P n
theorem txs_same {ls ms : List (List UInt8)} (hl : ls.length = ms.length) (h1 : ∀ l ∈ ls, Pl.readTx l ≠ none) (h2 : ∀ l ∈ ms, Pl.readTx l ≠ none) (h : ∀ k, k < ls.length → Pl.txAt (txsOf ls) k = Pl.txAt (txsOf ms) k) : ls = ms := by
  refine List.ext_getElem? fun k => ?_
  by_cases hk : k < ls.length
  · obtain ⟨l, hl1⟩ : ∃ l, ls[k]? = some l := ⟨_, List.getElem?_eq_getElem hk⟩
    obtain ⟨m, hm1⟩ : ∃ l, ms[k]? = some l := ⟨_, List.getElem?_eq_getElem (by omega)⟩
    cases ht : Pl.readTx l with
    | none => exact absurd ht (h1 l (List.mem_of_getElem? hl1))
    | some t =>
      cases hu : Pl.readTx m with
      | none => exact absurd hu (h2 m (List.mem_of_getElem? hm1))
      | some u =>
        have := h k hk
        rw [txAt_of hl1 ht, txAt_of hm1 hu] at this
        subst this
        rw [hl1, hm1, ← ((Pl.readTx_iff l t).1 ht).2, ((Pl.readTx_iff m t).1 hu).2]
  · rw [List.getElem?_eq_none (by omega), List.getElem?_eq_none (by omega)]
theorem txsOk_of {ls : List (List UInt8)} (h : ∀ l ∈ ls, Pl.readTx l ≠ none) (h3 : ls.length % 3 = 0) : Pl.TxsOk (txsOf ls) (ls.length / 3) := fun k hk => txOk_of h (by omega)
theorem txs_ok {ls : List (List UInt8)} (h : ∀ l ∈ ls, Pl.readTx l ≠ none) : ∀ t ∈ txsOf ls, Pl.TxOk t := by
  intro t ht
  unfold txsOf at ht
  obtain ⟨l, hl, rfl⟩ := List.mem_map.1 ht
  cases hr : Pl.readTx l with
  | none => exact absurd hr (h l hl)
  | some t => exact ((Pl.readTx_iff l t).1 hr).1
theorem hash_ne {P Q : List Pl.Txn} {n : Nat} : (Pl.be 4 (Pl.hashAt P n) == Pl.be 4 (Pl.hashAt Q n)) = decide (Pl.hashAt P n = Pl.hashAt Q n) := by
  rw [Bool.eq_iff_iff, beq_iff_eq, decide_eq_true_iff]
  exact ⟨Pl.be4_inj (by have := Pl.hashAt_lt P n; omega) (by have := Pl.hashAt_lt Q n; omega), fun h => by rw [h]⟩
/-- What the law needs of the answer: the two ways. -/
theorem CRes.split {lo : Nat} {W : World} {ls ms : List (List UInt8)} {av bv : Value} {k : Nat} (h : CRes lo W ls ms av bv k) (hc : Comp ls ms) :
    ((ls = ms ∨ Pl.hashAt (txsOf ls) (ls.length / 3) ≠ Pl.hashAt (txsOf ms) (ls.length / 3)) → av = .slice none 0 0 ∧ bv = .slice none 0 0 ∧ k = 21) ∧
    (ls ≠ ms → Pl.hashAt (txsOf ls) (ls.length / 3) = Pl.hashAt (txsOf ms) (ls.length / 3) →
      ∃ x y, x ≠ y ∧ Pl.sumN x = Pl.sumN y ∧ Pl.Summed (txsOf ls) (ls.length / 3) x ∧ Pl.Summed (txsOf ms) (ls.length / 3) y ∧ Kept lo W av (some x) ∧ Kept lo W bv (some y) ∧ k = 0) := by
  rcases h with ⟨h0, _⟩ | ⟨_, h⟩
  · exact absurd hc h0
  refine ⟨fun hs => ?_, fun hne hh => ?_⟩
  · rcases h with h | ⟨h1, x, y, h2, _⟩
    · exact h.2
    · rcases hs with hs | hs
      · subst hs
        rw [clashDown_self] at h2
        cases h2
      · exact absurd h1 hs
  · obtain ⟨c1, c2, c3, c4, c5⟩ := hc
    rcases Pl.clash_law (ls.length / 3) (txsOk_of c4 c3) (by rw [c1]; exact txsOk_of c5 (by rw [← c1]; exact c3)) hh with ⟨x, y, g1, g2, g3, g4, g5⟩ | ⟨g1, g2⟩
    · rcases h with ⟨h1 | h1, _⟩ | ⟨h1, x', y', h2, h3, h4, h5⟩
      · exact absurd hh h1
      · rw [h1] at g1; cases g1
      · rw [h2] at g1
        injection g1 with g1
        injection g1 with e1 e2
        subst e1 e2
        exact ⟨x', y', g2, g3, g4, g5, h3, h4, h5⟩
    · exact absurd (txs_same c1 c4 c5 (fun k hk => g2 k (by omega))) hne
end Go.Proofs.YtljmklohgpaopaaGreatDoor

namespace Go.Proofs.YtljmklohgpaopaaGreatDoor
open Go.RowKit

theorem takes_step {ls ms : List (List UInt8)} {j : Nat} {l1 l2 : List UInt8} (h1 : ls[j]? = some l1) (h2 : ms[j]? = some l2) : decide (ls.take (j + 1) = ms.take (j + 1)) = (decide (ls.take j = ms.take j) && (l1 == l2)) := by
  obtain ⟨g1, _⟩ := List.getElem?_eq_some_iff.1 h1
  obtain ⟨g2, _⟩ := List.getElem?_eq_some_iff.1 h2
  rw [List.take_add_one, List.take_add_one, h1, h2, Bool.eq_iff_iff, decide_eq_true_iff, Bool.and_eq_true, decide_eq_true_iff, beq_iff_eq]
  constructor
  · intro h
    obtain ⟨a, b⟩ := List.append_inj h (by rw [List.length_take, List.length_take]; omega)
    exact ⟨a, by simpa using b⟩
  · rintro ⟨a, rfl⟩
    rw [a]
theorem bareS (k : Int) (w : World) : Calls Tryz.prog 11 #[.agg #[.int .i64 k, .string ⟨#[]⟩, .bool true], .int .i64 k] w fun e w' => e = .returned (.bool true) ∧ Below w.heap.size w w' := by
  refine (bare_any k k ⟨#[]⟩ w).mono ?_
  rintro e w' ⟨rfl, hb⟩
  refine ⟨?_, hb⟩
  have : (⟨#[]⟩ : ByteArray).toList.isEmpty = true := by rw [ByteArray.toList_eq]; rfl
  rw [this]
  simp
set_option maxHeartbeats 8000000 in
set_option maxRecDepth 100000 in
theorem clashes_law (ss tt : List ByteArray) (A B : Option Addr) (cap cap2 : Nat) (w : World) (hG : GE w) (hs : Src w A (sv ss)) (ht : Src w B (sv tt)) (hcap : ss.length ≤ cap) (hcap2 : tt.length ≤ cap2) (hm : ss.length ≤ 1048576) (hm2 : tt.length ≤ 1048576)
    (hsz : ∀ s ∈ ss, s.size ≤ 140737488351232) (htz : ∀ s ∈ tt, s.size ≤ 140737488351232) :
    Calls Tryz.prog 3 #[.slice A ss.length cap, .slice B tt.length cap2] w fun e w' => e = .returned (.bool true) ∧ Below w.heap.size w w' := by
  obtain ⟨ls, hls⟩ : ∃ ls, bl ss = ls := ⟨_, rfl⟩
  obtain ⟨ms, hms⟩ : ∃ ms, bl tt = ms := ⟨_, rfl⟩
  obtain ⟨n, hn⟩ : ∃ n, ss.length = n := ⟨_, rfl⟩
  obtain ⟨m, hmn⟩ : ∃ n, tt.length = n := ⟨_, rfl⟩
  have hln : ls.length = n := by rw [← hls, bl_length, hn]
  have hmm : ms.length = m := by rw [← hms, bl_length, hmn]
  have hSA := strSrc_of hs hsz
  have hSB := strSrc_of ht htz
  rw [hls] at hSA
  rw [hms] at hSB
  have hAb : 0 < ss.length → ∀ b, A = some b → b.block < w.heap.size := fun h0 b hb => by
    obtain ⟨b', off', e1, hcell⟩ := hs.at_ 0 ((sv ss)[0]'(by rw [sv_len]; exact h0)) (by rw [List.getElem?_eq_getElem])
    rw [hb] at e1
    cases e1
    exact World.block_lt_of_cell? _ _ hcell
  have hBb : 0 < tt.length → ∀ b, B = some b → b.block < w.heap.size := fun h0 b hb => by
    obtain ⟨b', off', e1, hcell⟩ := ht.at_ 0 ((sv tt)[0]'(by rw [sv_len]; exact h0)) (by rw [List.getElem?_eq_getElem])
    rw [hb] at e1
    cases e1
    exact World.block_lt_of_cell? _ _ hcell
  have HLA := lentAll_any ss A cap w hs (by omega) hsz
  have HLB := Lib.hid (fun W (hW : Below w.heap.size w W) => lentAll_any tt B cap2 W (ht.below hW) (by omega) htz)
  have HSTA := Lib.hid (fun W base v gs (hl : Lent W base v gs ss) (hb : Below w.heap.size w W) (h0 : w.heap.size ≤ base) (h1 : base ≤ W.heap.size) => stayAll_any ss A base cap v gs W hl (hs.below hb) (fun h b hb => Nat.lt_of_lt_of_le (hAb h b hb) h0) h1 (by omega) hsz)
  have HSTB := Lib.hid (fun W base v gs (hl : Lent W base v gs tt) (hb : Below w.heap.size w W) (h0 : w.heap.size ≤ base) (h1 : base ≤ W.heap.size) => stayAll_any tt B base cap2 v gs W hl (ht.below hb) (fun h b hb => Nat.lt_of_lt_of_le (hBb h b hb) h0) h1 (by omega) htz)
  have HLA := Lib.hid HLA
  have HSA := Lib.hid hSA
  have HSB := Lib.hid hSB
  have HSZ := Lib.hid hsz
  have HTZ := Lib.hid htz
  have HLS := Lib.hid hls
  have HMS := Lib.hid hms
  have HLN := Lib.hid hln
  have HMM := Lib.hid hmm
  have HN := Lib.hid hn
  have HM := Lib.hid hmn
  have HG := Lib.hid hG
  unfold Hid at HLB HSTA HSTB HLA
  rw [hn] at HLA HSTA hcap hm ⊢
  rw [hmn] at HLB HSTB hcap2 hm2 ⊢
  have HLB := Lib.hid HLB
  have HSTA := Lib.hid HSTA
  have HSTB := Lib.hid HSTB
  have HLA := Lib.hid HLA
  clear hs ht hsz htz hSA hSB hAb hBb hls hms hln hmm hn hmn hG
  go_enter Tryz.func3, Tryz.ntmps3
  go_wp2_with fail
  refine HLA.out.mono ?_
  rintro e w1 ⟨v1, gs1, rfl, hl1, hb1⟩
  have HL1 := Lib.hid hl1
  have B1 := Lib.hid hb1
  have HLB1 := Lib.hid (HLB.out w1 hb1)
  have HGS1 := Lib.hid hl1.lt
  clear hl1 hb1
  go_wp2_with fail
  refine HLB1.out.mono ?_
  rintro e w2 ⟨v2, gs2, rfl, hl2, hb2⟩
  have hl1 := HL1.out.below hb2
  have B2 := Lib.hid (B1.out.trans (hb2.mono B1.out.size))
  obtain ⟨A1, c1, rfl, hc1, _, _⟩ := own_src hl1.own
  obtain ⟨A2, c2, rfl, hc2, _, _⟩ := own_src hl2.own
  have hbr1 := hl1.br HSZ.out
  have hbr2 := hl2.br HTZ.out
  rw [HLS.out] at hbr1
  rw [HMS.out] at hbr2
  rw [HN.out] at hl1 hc1
  rw [HM.out] at hl2 hc2
  have HPC := Lib.hid (plainClash_any n m ls ms A1 A2 c1 c2 w2 (HG.out.below B2.out) hbr1 hbr2 HLN.out HMM.out hm hm2 hc1 hc2)
  have HL1b := Lib.hid hl1
  have HL2 := Lib.hid hl2
  have S12 := hb2.size
  rw [HN.out, HM.out]
  clear hb2 hl1 hl2 hbr1 hbr2 HL1 HLB1
  go_wp2_with fail
  refine HPC.out.mono ?_
  rintro e w3 ⟨av, bv, k, rfl, hres, hb3⟩
  have hlt1 := HL1b.out.lt
  have hlt2 := HL2.out.lt
  obtain ⟨⟨Ax, nx, cx, rfl⟩, Ay, ny, cy, rfl⟩ := hres.slices
  unfold errA
  obtain ⟨g9, hg9⟩ : ∃ g, w3.heap.size = g := ⟨_, rfl⟩
  obtain ⟨w4, hw4⟩ : ∃ W, w3.alloc (.cells #[.int .i64 (k : Int), .string ⟨#[]⟩, .bool true] 28) = W := ⟨_, rfl⟩
  have hb4 : Below w3.heap.size w3 w4 := by rw [← hw4]; exact below_alloc _ _
  have K9 : Blk w4 g9 28 [.int .i64 (k : Int), .string ⟨#[]⟩, .bool true] := by rw [← hw4, ← hg9]; exact Blk.new w3 28 _
  have S23 := hb3.size
  have S34 := hb4.size
  have B3 := B2.out.trans (hb3.mono B2.out.size)
  have B4 := Lib.hid (B3.trans (hb4.mono B3.size))
  have hb24 := hb3.trans (hb4.mono hb3.size)
  have hres4 := hres.keep (W' := w4) (fun b off l _ h => h.keep hb4)
  have S1 : w.heap.size ≤ w1.heap.size := B1.out.size
  have HST1 := Lib.hid (HSTA.out w4 w.heap.size _ gs1 (HL1b.out.below hb24) B4.out (Nat.le_refl _) (by omega))
  have HL24 := Lib.hid (HL2.out.below hb24)
  have HK9 := Lib.hid K9
  have HR4 := Lib.hid hres4
  have HLT := Lib.hid (And.intro hlt1 hlt2)
  clear hres hb3 hb4 K9 B3 hb24 hres4 hlt1 hlt2 HPC HL1b HL2
  go_wp2_with fail
  refine HST1.out.mono ?_
  rintro e w5 ⟨rfl, hb5, hr5⟩
  have ho5 : Only (· ∈ gs1) w4 w5 := ⟨hb5.os, hb5.tape, hb5.output, hb5.size, fun k hk hn => hr5 k hk hn⟩
  have B5 := Lib.hid (B4.out.trans hb5)
  have hlow : ∀ b, w2.heap.size ≤ b → b ∉ gs1 ∧ b ∉ gs2 := fun b hb => ⟨fun h => by have := HLT.out.1 b h; omega, fun h => by have := HLT.out.2 b h; omega⟩
  have HR5 := Lib.hid (HR4.out.keep (W' := w5) (fun b off l hb h => ho5.bytes h (fun p hp => by cases hp; exact (hlow b hb).1)))
  have K9 := ho5.blk HK9.out (hlow g9 (by omega)).1
  have hsep : ∀ g ∈ gs2, g ∉ gs1 := fun g h1 h2 => by have := (HL24.out.far g h1).1; have := HGS1.out g h2; omega
  have hl5 : Lent w5 w1.heap.size (.slice A2 m c2) gs2 tt := ⟨HL24.out.len, ho5.own HL24.out.own (fun g hg h => by have := (HL24.out.own.lt g hg).1; have := HGS1.out g h; omega), fun k g s h1 h2 => ho5.blk (HL24.out.blk k g s h1 h2) (hsep g (List.mem_of_getElem? h1)), HL24.out.nodup, HL24.out.far⟩
  have S45 := hb5.size
  have HST2 := Lib.hid (HSTB.out w5 w1.heap.size _ gs2 hl5 B5.out S1 (by omega))
  have HK5 := Lib.hid K9
  have HLOW := Lib.hid hlow
  clear hb5 hr5 ho5 hlow K9 hsep hl5 HR4
  go_wp2_with fail
  refine HST2.out.mono ?_
  rintro e w6 ⟨rfl, hb6, hr6⟩
  have ho6 : Only (· ∈ gs2) w5 w6 := ⟨hb6.os, hb6.tape, hb6.output, hb6.size, fun k hk hn => hr6 k hk hn⟩
  have B6 := Lib.hid (B5.out.trans (hb6.mono S1))
  have HR6 := Lib.hid (HR5.out.keep (W' := w6) (fun b off l hb h => ho6.bytes h (fun p hp => by cases hp; exact (HLOW.out b hb).2)))
  have HK6 := Lib.hid (ho6.blk HK5.out (HLOW.out g9 (by omega)).2)
  have HP1 := Lib.hid (pastsR_any n cap A ls w6 (HSA.out.below B6.out) HLN.out hm)
  clear hb6 hr6 ho6 HR5 HST1 HST2
  go_wp2_with fail
  refine HP1.out.mono ?_
  rintro e w7 ⟨P1, n1, cc1, ok1, rfl, hb7, hok1, hp1⟩
  have B7 := Lib.hid (B6.out.trans (hb7.mono B6.out.size))
  have HP2 := Lib.hid (pastsR_any m cap2 B ms w7 (HSB.out.below B7.out) HMM.out hm2)
  have HK7 := Lib.hid (HK6.out.below hb7 HK6.out.lt)
  have HB67 := Lib.hid hb7
  have HOK1 := Lib.hid hok1
  have HPP1 := Lib.hid hp1
  clear hb7 hok1 hp1
  go_wp2_with fail
  refine HP2.out.mono ?_
  rintro e w8 ⟨P2, n2, cc2, ok2, rfl, hb8, hok2, hp2⟩
  have B8 := Lib.hid (B7.out.trans (hb8.mono B7.out.size))
  have HK8 := Lib.hid (HK7.out.below hb8 HK7.out.lt)
  have HB78 := Lib.hid hb8
  have HOK2 := Lib.hid hok2
  have HPP2 := Lib.hid hp2
  have heql : ∀ (W : World) (a : Option Addr) (n c : Nat), (binOp .eql 25 (.slice a n c) (.slice none 0 0)).run Tryz.prog W = .ok (.bool a.isNone) W := fun W a n c => Lib.run_eql_slice_nil W 25 5 a n c 0 0 Tryz.underlying25
  clear hb8 hok2 hp2 HP1 HP2
  cases ok1 with
  | false =>
    have HNC : Hid (¬ Comp ls ms) := fun h => Bool.noConfusion (HOK1.out.2 ⟨h.2.2.2.1, h.2.1, h.2.2.1⟩)
    obtain ⟨hx, hy, hk⟩ : Value.slice Ax nx cx = .slice none 0 0 ∧ Value.slice Ay ny cy = .slice none 0 0 ∧ k = 20 := (by rcases HR6.out with h | ⟨h, _⟩; exact h.2; exact absurd h HNC.out)
    injection hx with hx1 hx2 hx3
    injection hy with hy1 hy2 hy3
    obtain ⟨c0, c1, c2, f0, f1, f2⟩ := facts3 HK8.out
    subst hx1 hx2 hx3 hy1 hy2 hy3 hk
    have HBA := Lib.hid (bareS ((20 : Nat) : Int) w8)
    clear HR6
    go_wp2_with fail
    refine HBA.out.mono ?_
    rintro e w20 ⟨rfl, hb20⟩
    have HB20 := Lib.hid (B8.out.trans (hb20.mono B8.out.size))
    clear hb20
    go_wp2_with fail
    go_ret
    exact ⟨rfl, HB20.out⟩
  | true =>
    cases ok2 with
    | false =>
      have HNC : Hid (¬ Comp ls ms) := fun h => Bool.noConfusion (HOK2.out.2 ⟨h.2.2.2.2, by rw [← h.1]; exact h.2.1, by rw [← h.1]; exact h.2.2.1⟩)
      obtain ⟨hx, hy, hk⟩ : Value.slice Ax nx cx = .slice none 0 0 ∧ Value.slice Ay ny cy = .slice none 0 0 ∧ k = 20 := (by rcases HR6.out with h | ⟨h, _⟩; exact h.2; exact absurd h HNC.out)
      injection hx with hx1 hx2 hx3
      injection hy with hy1 hy2 hy3
      obtain ⟨c0, c1, c2, f0, f1, f2⟩ := facts3 HK8.out
      subst hx1 hx2 hx3 hy1 hy2 hy3 hk
      have HBA := Lib.hid (bareS ((20 : Nat) : Int) w8)
      clear HR6
      go_wp2_with fail
      refine HBA.out.mono ?_
      rintro e w20 ⟨rfl, hb20⟩
      have HB20 := Lib.hid (B8.out.trans (hb20.mono B8.out.size))
      clear hb20
      go_wp2_with fail
      go_ret
      exact ⟨rfl, HB20.out⟩
    | true =>
      by_cases hnm : n = m
      · subst hnm
        have hneb : ((n : Int) != (n : Int)) = false := by simp
        obtain ⟨rfl, hcc1, htx1⟩ := HPP1.out rfl
        obtain ⟨rfl, hcc2, htx2⟩ := HPP2.out rfl
        obtain ⟨a1, a2, a3⟩ := HOK1.out.1 rfl
        obtain ⟨a4, _, _⟩ := HOK2.out.1 rfl
        have HCP : Hid (Comp ls ms) := ⟨by rw [HLN.out, HMM.out], a2, a3, a1, a4⟩
        have HSP := Lib.hid (HR6.out.split HCP.out)
        rw [HLN.out, HMM.out]
        rw [HLN.out] at hcc1 a3
        rw [HMM.out] at hcc2
        have HT1 := Lib.hid htx1
        have HT2 := Lib.hid htx2
        have HA1 := Lib.hid a1
        have HA4 := Lib.hid a4
        have hn3 := a3
        clear htx1 htx2 a1 a2 a4 a3
        go_wp2_with fail
        go_loopw [17, 18] (fun sv i wr => ∃ k : Nat, k ≤ n ∧ i = .int .i64 (k : Int) ∧ sv = .bool (decide (ls.take k = ms.take k)) ∧ Hid (Below w8.heap.size w8 wr)) (fun _ i _ => n - (intOf i).toNat)
        case atStart => exact ⟨0, Nat.zero_le _, rfl, rfl, Below.refl _ _⟩
        case round =>
          obtain ⟨j, hj, rfl, rfl, HBL⟩ := hrel
          by_cases hjn : j < n
          · have q1 : (j : Int) < (n : Int) := by omega
            have q2 : (0 : Int) ≤ (j : Int) := by omega
            obtain ⟨l1, hl1⟩ : ∃ l, ls[j]? = some l := ⟨_, List.getElem?_eq_getElem (by rw [HLN.out]; exact hjn)⟩
            obtain ⟨l2, hl2⟩ : ∃ l, ms[j]? = some l := ⟨_, List.getElem?_eq_getElem (by rw [HMM.out]; exact hjn)⟩
            have ha1 : (ls.map fun l => Value.string (tstr l))[j]? = some (.string (tstr l1)) := by rw [List.getElem?_map, hl1]; rfl
            have ha2 : (ms.map fun l => Value.string (tstr l))[j]? = some (.string (tstr l2)) := by rw [List.getElem?_map, hl2]; rfl
            have hbw := B8.out.trans (HBL.out.mono B8.out.size)
            obtain ⟨p1, o1, rfl, g0⟩ := (HSA.out.below hbw).1.at_ _ _ ha1
            obtain ⟨p2, o2, rfl, g1⟩ := (HSB.out.below hbw).1.at_ _ _ ha2
            have HST := Lib.hid (takes_step hl1 hl2)
            obtain ⟨sb, hsb⟩ : ∃ b, decide (ls.take j = ms.take j) = b := ⟨_, rfl⟩
            obtain ⟨eb, heb⟩ : ∃ b, (l1 == l2) = b := ⟨_, rfl⟩
            have hbe : ((tstr l1).toList == (tstr l2).toList) = eb := by rw [tstr_beq, heb]
            rw [hsb, heb] at HST
            rw [hsb]
            clear ha1 ha2 hbw hl1 hl2 hsb heb
            cases sb with
            | false =>
              go_wp2_with fail
              go_quiet (fail)
              go_wp2_with fail
              exact ⟨⟨j + 1, by omega, by go_num, by rw [HST.out]; rfl, below_drewN HBL.out _⟩, by simp [intOf]; omega⟩
            | true =>
              cases eb with
              | false =>
                go_wp2_with fail
                go_quiet (fail)
                go_wp2_with fail
                exact ⟨⟨j + 1, by omega, by go_num, by rw [HST.out]; rfl, below_drewN HBL.out _⟩, by simp [intOf]; omega⟩
              | true =>
                go_wp2_with fail
                go_quiet (fail)
                go_wp2_with fail
                exact ⟨⟨j + 1, by omega, by go_num, by rw [HST.out]; rfl, below_drewN HBL.out _⟩, by simp [intOf]; omega⟩
          · obtain rfl : j = n := by omega
            have q1 : ¬ (j : Int) < (j : Int) := by omega
            obtain ⟨same, hsame⟩ : ∃ b, decide (ls.take j = ms.take j) = b := ⟨_, rfl⟩
            have hsm : decide (ls = ms) = same := by
              rw [← hsame, List.take_of_length_le (by rw [HLN.out]; exact Nat.le_refl _), List.take_of_length_le (by rw [HMM.out]; exact Nat.le_refl _)]
            rw [hsame]
            have HSM := Lib.hid hsm
            obtain ⟨T, hT⟩ : ∃ T, txsOf ls = T := ⟨_, rfl⟩
            obtain ⟨U, hU⟩ : ∃ U, txsOf ms = U := ⟨_, rfl⟩
            have hTl : T.length = j := by rw [← hT, txsOf_len, HLN.out]
            have hUl : U.length = j := by rw [← hU, txsOf_len, HMM.out]
            have hTok : ∀ t ∈ T, Pl.TxOk t := by rw [← hT]; exact txs_ok HA1.out
            have hUok : ∀ t ∈ U, Pl.TxOk t := by rw [← hU]; exact txs_ok HA4.out
            have B9 := Lib.hid (B8.out.trans (HBL.out.mono B8.out.size))
            have hb79 : Below w7.heap.size w7 wr := HB78.out.trans (HBL.out.mono HB78.out.size)
            have B69 := Lib.hid (HB67.out.trans (hb79.mono HB67.out.size))
            have ht1 := HT1.out.below hb79
            have ht2 := HT2.out.below HBL.out
            rw [hT] at ht1
            rw [hU] at ht2
            unfold Hid at HSP
            rw [HLN.out, hT, hU] at HSP
            have HSP := Lib.hid HSP
            have HTL := Lib.hid hTl
            have HUL := Lib.hid hUl
            have HTOK := Lib.hid hTok
            have HUOK := Lib.hid hUok
            have HK10 := Lib.hid (HK8.out.below HBL.out HK8.out.lt)
            have HT10 := Lib.hid ht1
            have HU10 := Lib.hid ht2
            have HH1 := Lib.hid (headersR_any j cc1 P1 T wr ht1 hTl hm hTok)
            obtain ⟨N, hN⟩ : ∃ N, j / 3 = N := ⟨_, rfl⟩
            have hNl : N ≤ 1048576 := by omega
            unfold Hid at HH1 HSP
            rw [hN] at HH1 HSP
            have HH1 := Lib.hid HH1
            have HSP := Lib.hid HSP
            have HNJ := Lib.hid hN
            clear hsame hsm hT hU hTl hUl hTok hUok hb79 ht1 ht2 hN HT1 HT2
            go_wp2_with fail
            refine HH1.out.mono ?_
            rintro e w10 ⟨v, rfl, hsl, hb10⟩
            obtain ⟨AH1, ch1, rfl, _, hsh1, _⟩ := hsl.strs
            have HH2 := headersR_any j cc2 P2 U w10 (HU10.out.below hb10) HUL.out hm HUOK.out
            rw [HNJ.out] at HH2
            have HH2 := Lib.hid HH2
            have B910 := Lib.hid hb10
            have HSH1 := Lib.hid hsh1
            rw [hdrs_len]
            clear hsl hsh1 hb10 HH1
            go_wp2_with fail
            refine HH2.out.mono ?_
            rintro e w11 ⟨v, rfl, hsl, hb11⟩
            obtain ⟨AH2, ch2, rfl, _, hsh2, _⟩ := hsl.strs
            have hb911 := B910.out.trans (hb11.mono B910.out.size)
            have B11 := Lib.hid (B9.out.trans (hb911.mono B9.out.size))
            have B611 := Lib.hid (B69.out.trans (hb911.mono B69.out.size))
            have HK11 := Lib.hid (HK10.out.below hb911 HK10.out.lt)
            have HHA := Lib.hid (hashR_any N ch1 AH1 T w11 (HSH1.out.below hb11) hNl)
            have HSH2 := Lib.hid hsh2
            have HT11 := Lib.hid (HT10.out.below hb911)
            have HU11 := Lib.hid (HU10.out.below hb911)
            rw [hdrs_len]
            clear hsl hsh2 hb11 hb911 HH2 HT10 HU10
            cases same with
            | true =>
              have HEQ := Lib.hid (show ls = ms from of_decide_eq_true HSM.out)
              obtain ⟨hx, hy, hk⟩ : Value.slice Ax nx cx = .slice none 0 0 ∧ Value.slice Ay ny cy = .slice none 0 0 ∧ k = 21 := HSP.out.1 (.inl HEQ.out)
              injection hx with hx1 hx2 hx3
              injection hy with hy1 hy2 hy3
              obtain ⟨c0, c1, c2, f0, f1, f2⟩ := facts3 HK11.out
              subst hx1 hx2 hx3 hy1 hy2 hy3 hk
              have HBA := Lib.hid (bareS ((21 : Nat) : Int) w11)
              clear HR6
              go_wp2_with fail
              refine HBA.out.mono ?_
              rintro e w20 ⟨rfl, hb20⟩
              have HB20 := Lib.hid (B11.out.trans (hb20.mono B11.out.size))
              clear hb20
              go_wp2_with fail
              go_ret
              exact ⟨rfl, HB20.out⟩
            | false =>
              have HNE := Lib.hid (show ls ≠ ms from of_decide_eq_false HSM.out)
              obtain ⟨x1, hx1⟩ : ∃ x, Pl.be 4 (Pl.hashAt T N) = x := ⟨_, rfl⟩
              obtain ⟨x2, hx2⟩ : ∃ x, Pl.be 4 (Pl.hashAt U N) = x := ⟨_, rfl⟩
              obtain ⟨hq, hhq⟩ : ∃ b, decide (Pl.hashAt T N = Pl.hashAt U N) = b := ⟨_, rfl⟩
              have hcmp : ((tstr x1).toList == (tstr x2).toList) = hq := by rw [tstr_beq, ← hx1, ← hx2, hash_ne, hhq]
              have hcmpn : ((tstr x1).toList != (tstr x2).toList) = !hq := by rw [bne, hcmp]
              unfold Hid at HHA
              rw [hx1] at HHA
              have HHA := Lib.hid HHA
              have HHQ := Lib.hid hhq
              have HX2 := Lib.hid hx2
              clear hx1 hx2 hhq
              go_wp2_with fail
              refine HHA.out.mono ?_
              rintro e w12 ⟨rfl, hb12⟩
              have HHB := hashR_any N ch2 AH2 U w12 (HSH2.out.below hb12) hNl
              rw [HX2.out] at HHB
              have HHB := Lib.hid HHB
              have B1112 := Lib.hid hb12
              clear hb12
              go_wp2_with fail
              refine HHB.out.mono ?_
              rintro e w13 ⟨rfl, hb13⟩
              have hb1113 := B1112.out.trans (hb13.mono B1112.out.size)
              have B13 := Lib.hid (B11.out.trans (hb1113.mono B11.out.size))
              have B613 := Lib.hid (B611.out.trans (hb1113.mono B611.out.size))
              have HK13 := Lib.hid (HK11.out.below hb1113 HK11.out.lt)
              have HT13 := Lib.hid (HT11.out.below hb1113)
              have HU13 := Lib.hid (HU11.out.below hb1113)
              clear hb13 hb1113 HHA HHB
              cases hq with
              | false =>
                have HHN := Lib.hid (show Pl.hashAt T N ≠ Pl.hashAt U N from of_decide_eq_false HHQ.out)
                obtain ⟨hx, hy, hk⟩ : Value.slice Ax nx cx = .slice none 0 0 ∧ Value.slice Ay ny cy = .slice none 0 0 ∧ k = 21 := HSP.out.1 (.inr HHN.out)
                injection hx with hx1 hx2 hx3
                injection hy with hy1 hy2 hy3
                obtain ⟨c0, c1, c2, f0, f1, f2⟩ := facts3 HK13.out
                subst hx1 hx2 hx3 hy1 hy2 hy3 hk
                have HBA := Lib.hid (bareS ((21 : Nat) : Int) w13)
                clear HR6
                go_wp2_with fail
                refine HBA.out.mono ?_
                rintro e w20 ⟨rfl, hb20⟩
                have HB20 := Lib.hid (B13.out.trans (hb20.mono B13.out.size))
                clear hb20
                go_wp2_with fail
                go_ret
                exact ⟨rfl, HB20.out⟩
              | true =>
                have hhe : Pl.hashAt T N = Pl.hashAt U N := of_decide_eq_true HHQ.out
                obtain ⟨x, y, hxy, hsum, hs1, hs2, ⟨bx, ox, nx', cx', ex, hxl, hxc, hxm, _, hxb⟩, ⟨by_, oy, ny', cy', ey, hyl, hyc, hym, _, hyb⟩, hk0⟩ := HSP.out.2 HNE.out hhe
                injection ex with ex1 ex2 ex3
                injection ey with ey1 ey2 ey3
                obtain ⟨c0, c1, c2, f0, f1, f2⟩ := facts3 HK13.out
                subst ex1 ex2 ex3 ey1 ey2 ey3 hk0
                have HCX : Hid (∀ W, Below w6.heap.size w6 W → (convert 25 9 (.slice (some ⟨bx, ox, none⟩) nx cx)).run Tryz.prog W = .ok (.string (tstr x)) W) := fun W hb => by
                  have := run_tostr W (some ⟨bx, ox, none⟩) x cx (hxb.keep hb)
                  rw [hxl] at this; exact this
                have HCY : Hid (∀ W, Below w6.heap.size w6 W → (convert 25 9 (.slice (some ⟨by_, oy, none⟩) ny cy)).run Tryz.prog W = .ok (.string (tstr y)) W) := fun W hb => by
                  have := run_tostr W (some ⟨by_, oy, none⟩) y cy (hyb.keep hb)
                  rw [hyl] at this; exact this
                have hne1 : ((tstr x).toList == (tstr y).toList) = false := by rw [tstr_beq]; exact beq_eq_false_iff_ne.2 hxy
                have hne2 : ((tstr x).toList != (tstr y).toList) = true := by rw [bne, hne1]; rfl
                have HSX := Lib.hid (fun W => refSum_tx x W (by omega))
                have HSY := Lib.hid (fun W => refSum_tx y W (by omega))
                unfold Hid at HSX HSY
                rw [← hsum] at HSY
                obtain ⟨sx, hsx⟩ : ∃ s, Pl.be 4 (Pl.sumN x) = s := ⟨_, rfl⟩
                rw [hsx] at HSX HSY
                have HSX := Lib.hid HSX
                have HSY := Lib.hid HSY
                have hbe : ((tstr sx).toList == (tstr sx).toList) = true := by rw [tstr_beq]; exact beq_iff_eq.2 rfl
                have HS1 := Lib.hid hs1
                have HS2 := Lib.hid hs2
                have HBA := Lib.hid (bareS ((0 : Nat) : Int) w13)
                clear hxy hsum hs1 hs2 hxl hxc hxm hxb hyl hyc hym hyb hhe hsx HR6
                go_wp2_with fail
                refine HBA.out.mono ?_
                rintro e w14 ⟨rfl, hb14⟩
                have B14 := Lib.hid (B613.out.trans (hb14.mono B613.out.size))
                have B1314 := Lib.hid hb14
                have cx14 := HCX.out w14 B14.out
                clear hb14 c0 c1 c2 f0 f1 f2
                go_wp2_with fail
                refine (HSX.out _).mono ?_
                rintro e w15 ⟨rfl, hb15⟩
                have B15 := Lib.hid (B14.out.trans (hb15.mono B14.out.size))
                have B1315 := Lib.hid (B1314.out.trans (hb15.mono B1314.out.size))
                have cy15 := HCY.out w15 B15.out
                clear hb15 cx14
                go_wp2_with fail
                refine (HSY.out _).mono ?_
                rintro e w16 ⟨rfl, hb16⟩
                have B16 := Lib.hid (B15.out.trans (hb16.mono B15.out.size))
                have B1316 := Lib.hid (B1315.out.trans (hb16.mono B1315.out.size))
                have cx16 := HCX.out w16 B16.out
                have h3 : j % 3 = 0 := hn3
                have HSU1 := Lib.hid (summedR_any j cc1 P1 T x w16 (HT13.out.below B1316.out) HTL.out hm HTOK.out h3 (by rw [HNJ.out]; exact HS1.out))
                clear hb16 cy15
                go_wp2_with fail
                refine HSU1.out.mono ?_
                rintro e w17 ⟨rfl, hb17⟩
                have B17 := Lib.hid (B16.out.trans (hb17.mono B16.out.size))
                have B1317 := Lib.hid (B1316.out.trans (hb17.mono B1316.out.size))
                have cy17 := HCY.out w17 B17.out
                have HSU2 := Lib.hid (summedR_any j cc2 P2 U y w17 (HU13.out.below B1317.out) HUL.out hm HUOK.out h3 (by rw [HNJ.out]; exact HS2.out))
                clear hb17 cx16
                go_wp2_with fail
                refine HSU2.out.mono ?_
                rintro e w18 ⟨rfl, hb18⟩
                have B18 := B17.out.trans (hb18.mono B17.out.size)
                have B1318 := B1317.out.trans (hb18.mono B1317.out.size)
                have cx18 := HCX.out w18 B18
                have cy18 := HCY.out w18 B18
                have HFB := Lib.hid (B13.out.trans (B1318.mono B13.out.size))
                clear hb18 cy17 B18 B1318
                go_wp2_with fail
                go_ret
                exact ⟨rfl, HFB.out⟩
      · have hneb : ((n : Int) != (m : Int)) = true := by simp; omega
        have HNC : Hid (¬ Comp ls ms) := fun h => hnm (by rw [← HLN.out, ← HMM.out]; exact h.1)
        obtain ⟨hx, hy, hk⟩ : Value.slice Ax nx cx = .slice none 0 0 ∧ Value.slice Ay ny cy = .slice none 0 0 ∧ k = 20 := (by rcases HR6.out with h | ⟨h, _⟩; exact h.2; exact absurd h HNC.out)
        injection hx with hx1 hx2 hx3
        injection hy with hy1 hy2 hy3
        obtain ⟨c0, c1, c2, f0, f1, f2⟩ := facts3 HK8.out
        subst hx1 hx2 hx3 hy1 hy2 hy3 hk
        have HBA := Lib.hid (bareS ((20 : Nat) : Int) w8)
        clear HR6
        go_wp2_with fail
        refine HBA.out.mono ?_
        rintro e w20 ⟨rfl, hb20⟩
        have HB20 := Lib.hid (B8.out.trans (hb20.mono B8.out.size))
        clear hb20
        go_wp2_with fail
        go_ret
        exact ⟨rfl, HB20.out⟩
end Go.Proofs.YtljmklohgpaopaaGreatDoor
