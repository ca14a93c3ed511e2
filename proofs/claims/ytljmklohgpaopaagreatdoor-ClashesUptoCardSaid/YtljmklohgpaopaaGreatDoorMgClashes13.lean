/- The chain's Entry and Header. The chain's texts: those of a tree, each handed to a function. The document's Tx.Texts and Payload. -/
import Derived.Test.YtljmklohgpaopaaGreatDoorMgClashes11
import Derived.Test.YtljmklohgpaopaaGreatDoorMgClashes12
set_option linter.unusedVariables false
set_option linter.unusedSimpArgs false

namespace Go.Proofs.YtljmklohgpaopaaGreatDoor
open Go.RowKit

theorem below_undrew {B : Nat} {w w' : World} (h : Below B w.drew w') : Below B w w' := ⟨h.os, h.tape, h.output, h.size, h.block⟩
theorem NB.from {w0 w : World} {l : List UInt8} {e : Ending} {w' : World} (h : NB w l e w') (hb : Below w0.heap.size w0 w) : NB w0 l e w' := by
  obtain ⟨A, n, cap, h1, h2, h3, h4, h5, h6⟩ := h
  exact ⟨A, n, cap, h1, h2, h3, h4, fun p hp => ⟨Nat.le_trans hb.size (h5 p hp).1, (h5 p hp).2⟩, hb.trans (h6.mono hb.size)⟩
theorem NB.drew {w : World} {l : List UInt8} {e : Ending} {w' : World} (h : NB w.drew l e w') : NB w l e w' := by
  obtain ⟨A, n, cap, h1, h2, h3, h4, h5, h6⟩ := h
  exact ⟨A, n, cap, h1, h2, h3, h4, h5, below_undrew h6⟩
theorem NB.of_more {w : World} {l : List UInt8} {n : Nat} {e : Ending} {w' : World} (hl : l.length = n) (h : ∃ A' cap', e = .returned (.slice A' n cap') ∧ BytesAt w' A' l ∧ Below w.heap.size w w' ∧ n ≤ cap' ∧ ∀ p, A' = some p → w.heap.size ≤ p.block ∧ p.block < w'.heap.size) : NB w l e w' := by
  obtain ⟨A, cap, h1, h2, h3, h4, h5⟩ := h
  exact ⟨A, n, cap, h1, hl, h4, h2, h5, h3⟩
theorem txOk_time {t : Pl.Txn} (h : Pl.TxOk t) : t.time < 18446744073709551616 := by
  have e : (256 : Nat) ^ 8 = 18446744073709551616 := by decide
  have := h.1
  omega
set_option maxHeartbeats 1000000 in
theorem entryOf_any (P : Nat → Prop) (n : Nat) (c : List Value) (t : Pl.Txn) (w : World) (hR : TxR w P c t) (hP : ∀ b, P b → b < w.heap.size) (hok : Pl.TxOk t) (hn : n < 4294967296) :
    Calls Tryz.prog 147 #[.int .i64 (n : Nat), .agg c.toArray] w (NB w (Pl.entryOf n t)) := by
  have hti := txOk_time hok
  have hl := hok.2.1
  have ww := wrap_sig hti
  obtain ⟨A, cap, cs, rfl, hcap, hs, hrows, hA⟩ := id hR
  obtain ⟨m, hm⟩ : ∃ m, t.ops.length = m := ⟨_, rfl⟩
  rw [hm] at hcap hl hR ⊢
  obtain ⟨wb, hwb⟩ : ∃ wb, w.alloc (.cells #[.int .i64 (sig t.time), .slice A m cap] 210) = wb := ⟨_, rfl⟩
  obtain ⟨gb, hgb⟩ : ∃ g, w.heap.size = g := ⟨_, rfl⟩
  have BB : Blk wb gb 210 [.int .i64 (sig t.time), .slice A m cap] := by rw [← hwb, ← hgb]; exact Blk.new w 210 _
  have hbb : Below w.heap.size w wb := by rw [← hwb]; exact (Below.refl _ _).alloc (Nat.le_refl _) _
  obtain ⟨c0, c1, _, _⟩ := facts2 BB
  have HT := Lib.hid (texts_any P [.int .i64 (sig t.time), .slice A m cap] t wb.drew (hR.only (Only.of_below hbb.drew (fun _ => False)) (fun _ _ h => h)) (fun b hb => Nat.lt_of_lt_of_le (hP b hb) hbb.size) hok.2.2 (by omega))
  have HBB := Lib.hid BB
  have HB := Lib.hid hbb
  have HM := Lib.hid hm
  clear hR hP hok hs hrows hA hm hbb BB
  go_enter Tryz.func147, Tryz.ntmps147
  go_wp2_with fail
  go_region_held3 (fun W : World => W.cell? ⟨gb, 0, none⟩ = some (.int .i64 (sig t.time)) ∧ W.cell? ⟨gb, 1, none⟩ = some (.slice A m cap)) (first | exact ⟨c0, c1⟩ | exact S1.out | exact S2.out | exact S3.out) (first
    | (go_at_call 110
       refine HT.out.mono ?_
       rintro e w1 ⟨v1, rfl, o1, b1⟩
       obtain ⟨A1, cap1, hv, hc1, hbb1⟩ := o1.bb
       rw [List.length_map, HM.out] at hv
       subst hv
       have B1 := Lib.hid (HB.out.trans ((below_undrew b1).mono HB.out.size))
       have K1 := Lib.hid (HBB.out.below (below_undrew b1) HBB.out.lt)
       have S1 := Lib.hid (And.intro (K1.out.cell 0) (K1.out.cell 1))
       have R1 := root_any m (t.ops.map Pl.encOp) A1 cap1 w1 (by rw [List.length_map, HM.out]; exact Nat.le_refl _) hbb1 hc1 (by rw [List.length_map, HM.out]; omega)
       rw [List.length_map, HM.out] at R1
       have R1 := Lib.hid R1
       clear o1 b1 hc1 hbb1)
    | (go_at_call 172
       refine R1.out.mono ?_
       rintro e w2 ⟨rfl, b2⟩
       have B2 := Lib.hid (B1.out.trans (b2.mono B1.out.size))
       have K2 := Lib.hid (K1.out.below b2 K1.out.lt)
       have S2 := Lib.hid (And.intro (K2.out.cell 0) (K2.out.cell 1))
       clear b2)
    | (go_at_call 171
       refine (entry_more n t.time m (Pl.root (t.ops.map Pl.encOp)) w2 hn hti (by omega) (Nat.lt_trans (Pl.root_lt _) (by decide))).mono ?_
       intro e w3 h3
       obtain ⟨_, _, _, _, b3, _⟩ := id h3
       have K3 := Lib.hid (K2.out.below b3 K2.out.lt)
       have hq := (NB.of_more (l := Pl.entry n (Pl.be 8 t.time) m (Pl.root (t.ops.map Pl.encOp))) (by simp [Pl.entry, Pl.be_length]) h3).from B2.out
       rw [show Pl.entry n (Pl.be 8 t.time) m (Pl.root (t.ops.map Pl.encOp)) = Pl.entryOf n t by unfold Pl.entryOf Pl.txTexts; rw [HM.out]] at hq
       clear h3
       obtain ⟨A3, n3, cap3, rfl, hq⟩ := hq
       have N3 := Lib.hid hq
       have S3 := Lib.hid (And.intro (K3.out.cell 0) (K3.out.cell 1))
       clear hq)
    | fail)
  go_wp2_with fail
  go_ret
  exact ⟨_, _, _, rfl, N3.out⟩

theorem facts_hash {w : World} {g n : Nat} {t : TypeId} (h : Blk w g t (hc n)) : w.cell? ⟨g, 0, none⟩ = some (.int .u8 ((n : Int) / 16777216)) ∧ w.cell? ⟨g, 1, none⟩ = some (.int .u8 ((n : Int) / 65536 % 256)) ∧
    w.cell? ⟨g, 2, none⟩ = some (.int .u8 ((n : Int) / 256 % 256)) ∧ w.cell? ⟨g, 3, none⟩ = some (.int .u8 ((n : Int) % 256)) := ⟨h.cell 0, h.cell 1, h.cell 2, h.cell 3⟩
set_option maxHeartbeats 1000000 in
theorem headerOf_any (b h : Nat) (ls : List (List UInt8)) (A : Option Addr) (cap : Nat) (w : World) (hb : b < 4294967296) (hh : h < 4294967296) (hls : BB w A ls) (hc0 : ls.length ≤ cap) (hl : ls.length ≤ 1000) :
    Calls Tryz.prog 148 #[.int .i64 (b : Nat), hashVal h, .slice A ls.length cap] w (NB w (Pl.header b h (Pl.root ls))) := by
  obtain ⟨wb, hwb⟩ : ∃ wb, w.alloc (.cells (hc h).toArray 200) = wb := ⟨_, rfl⟩
  obtain ⟨gb, hgb⟩ : ∃ g, w.heap.size = g := ⟨_, rfl⟩
  have BB' : Blk wb gb 200 (hc h) := by rw [← hwb, ← hgb]; exact Blk.new w 200 _
  have hbb : Below w.heap.size w wb := by rw [← hwb]; exact (Below.refl _ _).alloc (Nat.le_refl _) _
  obtain ⟨c0, c1, c2, c3⟩ := facts_hash BB'
  have R1 := Lib.hid (root_any ls.length ls A cap wb.drew (Nat.le_refl _) (hls.keep hbb.drew) hc0 (by omega))
  have HBB := Lib.hid BB'
  have HB := Lib.hid hbb
  unfold hc at hwb
  clear hls hbb BB'
  unfold hashVal
  go_enter Tryz.func148, Tryz.ntmps148
  go_wp2_with fail
  go_region_held3 (fun W : World => W.cell? ⟨gb, 0, none⟩ = some (.int .u8 ((h : Int) / 16777216)) ∧ W.cell? ⟨gb, 1, none⟩ = some (.int .u8 ((h : Int) / 65536 % 256)) ∧ W.cell? ⟨gb, 2, none⟩ = some (.int .u8 ((h : Int) / 256 % 256)) ∧ W.cell? ⟨gb, 3, none⟩ = some (.int .u8 ((h : Int) % 256)))
    (first | exact ⟨c0, c1, c2, c3⟩ | exact facts_hash K2.out | exact facts_hash K3.out) (first
    | (go_at_call 172
       refine R1.out.mono ?_
       rintro e w2 ⟨rfl, b2⟩
       have B2 := Lib.hid (HB.out.trans ((below_undrew b2).mono HB.out.size))
       have K2 := Lib.hid (HBB.out.below (below_undrew b2) HBB.out.lt)
       clear b2)
    | (go_at_call 173
       refine (header_more b h (Pl.root ls) w2 hb hh (Nat.lt_trans (Pl.root_lt _) (by decide))).mono ?_
       intro e w3 h3
       obtain ⟨_, _, _, _, b3, _⟩ := id h3
       have K3 := Lib.hid (K2.out.below b3 K2.out.lt)
       have hq := (NB.of_more (Pl.header_length _ _ _) h3).from B2.out
       clear h3
       obtain ⟨A3, n3, cap3, rfl, hq⟩ := hq
       have N3 := Lib.hid hq
       clear hq b3)
    | fail)
  go_wp2_with fail
  go_ret
  exact ⟨_, _, _, rfl, N3.out⟩
end Go.Proofs.YtljmklohgpaopaaGreatDoor

namespace Go.Proofs.YtljmklohgpaopaaGreatDoor
open Go.RowKit

/-- Texts in blocks of P. -/
def BR (w : World) (P : Nat → Prop) (A : Option Addr) (ls : List (List UInt8)) : Prop := ∃ cs, Src w A cs ∧ RowsR 1 (SlR w P) cs ls ∧ ∀ p, A = some p → P p.block
theorem BR.bb {w : World} {P : Nat → Prop} {A : Option Addr} {ls : List (List UInt8)} (h : BR w P A ls) : BB w A ls := by
  obtain ⟨cs, h1, h2, _⟩ := h
  exact h2.bb h1
theorem BR.only {F P : Nat → Prop} {w w' : World} {A : Option Addr} {ls : List (List UInt8)} (h : BR w P A ls) (ho : Only F w w') (hF : ∀ b, P b → ¬ F b) : BR w' P A ls := by
  obtain ⟨cs, h1, h2, h3⟩ := h
  exact ⟨cs, ho.src h1 (fun p hp => hF _ (h3 p hp)), h2.mono (fun _ _ _ h => SlR.fr _ _ _ _ _ _ _ h ho hF (fun _ h => h)), h3⟩
theorem BR.keepB {B : Nat} {P : Nat → Prop} {w w' : World} {A : Option Addr} {ls : List (List UInt8)} (h : BR w P A ls) (hb : Below B w w') (hP : ∀ b, P b → b < B) : BR w' P A ls :=
  h.only (F := fun b => B ≤ b) ⟨hb.os, hb.tape, hb.output, hb.size, fun k _ hn => hb.block k (by omega)⟩ (fun b hb h => by have := hP b hb; omega)
theorem BR.mono {P P' : Nat → Prop} {w : World} {A : Option Addr} {ls : List (List UInt8)} (h : BR w P A ls) (hP : ∀ b, P b → P' b) : BR w P' A ls := by
  obtain ⟨cs, h1, h2, h3⟩ := h
  exact ⟨cs, h1, h2.mono (fun _ _ _ h => SlR.fr (fun _ => False) _ _ _ _ _ _ h (Only.refl _ _) (fun _ _ h => h) hP), fun p hp => hP _ (h3 p hp)⟩
theorem RowsR.take1 {α : Type} {R : List Value → α → Prop} {cs : List Value} {xs : List α} (h : RowsR 1 R cs xs) (k : Nat) : RowsR 1 R (cs.take k) (xs.take k) := by
  refine ⟨by rw [List.length_take, List.length_take, h.1, Nat.one_mul, Nat.one_mul], fun j x hj => ?_⟩
  rw [List.getElem?_take] at hj
  split at hj
  · next hjk =>
    have := h.2 j x hj
    rw [Nat.one_mul] at this ⊢
    rw [List.drop_take, List.take_take, Nat.min_eq_left (by omega)]
    exact this
  · cases hj
theorem RowsR.drop1 {α : Type} {R : List Value → α → Prop} {cs : List Value} {xs : List α} (h : RowsR 1 R cs xs) (k : Nat) : RowsR 1 R (cs.drop k) (xs.drop k) := by
  refine ⟨by rw [List.length_drop, List.length_drop, h.1, Nat.one_mul, Nat.one_mul], fun j x hj => ?_⟩
  rw [List.getElem?_drop] at hj
  have := h.2 _ x hj
  rw [Nat.one_mul] at this ⊢
  rw [List.drop_drop]
  exact this
theorem BR.take {P : Nat → Prop} {w : World} {A : Option Addr} {ls : List (List UInt8)} (h : BR w P A ls) (k : Nat) : BR w P A (ls.take k) := by
  obtain ⟨cs, h1, h2, h3⟩ := h
  exact ⟨cs.take k, h1.take k, h2.take1 k, h3⟩
theorem BR.drop {P : Nat → Prop} {w : World} {b off : Nat} {ls : List (List UInt8)} (h : BR w P (some ⟨b, off, none⟩) ls) (k : Nat) : BR w P (some ⟨b, off + k, none⟩) (ls.drop k) := by
  obtain ⟨cs, h1, h2, h3⟩ := h
  refine ⟨cs.drop k, ?_, h2.drop1 k, fun p hp => by cases hp; exact h3 ⟨b, off, none⟩ rfl⟩
  rcases h1 with rfl | ⟨b', off', e, h1⟩
  · exact .inl (by simp)
  · cases e
    refine .inr ⟨_, _, rfl, fun j u hu => ?_⟩
    rw [List.getElem?_drop] at hu
    rw [Nat.add_assoc]
    exact h1 _ u hu
theorem BR.at_ {P : Nat → Prop} {w : World} {b off : Nat} {ls : List (List UInt8)} (h : BR w P (some ⟨b, off, none⟩) ls) {k : Nat} {l : List UInt8} (hk : ls[k]? = some l) :
    ∃ A n cap, w.cell? ⟨b, off + k, none⟩ = some (.slice A n cap) ∧ l.length = n ∧ n ≤ cap ∧ n ≤ 140737488351232 ∧ BytesAt w A l ∧ ∀ p, A = some p → P p.block := by
  obtain ⟨cs, h1, h2, h3⟩ := h
  obtain ⟨c, ⟨A, cap, rfl, a1, a2, a3, a4⟩, _, hc⟩ := h2.at_ hk
  have := hc 0 (by omega)
  simp only [Nat.mul_one, Nat.add_zero, List.getElem?_cons_zero] at this
  exact ⟨A, _, cap, h1.cell _ _ this, rfl, a1, a2, a3, a4⟩
theorem OL.br {w : World} {base : Nat} {v : Value} {ls : List (List UInt8)} (h : BL w base v ls) : ∃ A cap, v = .slice A ls.length cap ∧ ls.length ≤ cap ∧ BR w (fun b => base ≤ b ∧ b < w.heap.size) A ls := by
  obtain ⟨A, cap, cs, rfl, h1, h2, h3, h4⟩ := h.src SlR.fr
  exact ⟨A, cap, rfl, h1, cs, h2, h3, h4⟩

/-- A function that takes texts, one after the other; J: what is so when these were taken. -/
structure Taker (K : FuncId) (caps : Array Value) (B : Nat) (J : World → List (List UInt8) → Prop) : Prop where
  enter : ∀ (x : Value) (W : World), (callFunc K (#[x] ++ caps)).run Tryz.prog W = .ok (.enter K (#[x] ++ caps)) W
  below : ∀ (W W' : World) (done : List (List UInt8)), J W done → Below W.heap.size W W' → J W' done
  call : ∀ (W0 W : World) (A : Option Addr) (n cap : Nat) (l : List UInt8) (done : List (List UInt8)), J W0 done → B ≤ W0.heap.size → Below W0.heap.size W0 W → l.length = n → n ≤ cap → n ≤ 140737488351232 → BytesAt W A l → (∀ p, A = some p → W0.heap.size ≤ p.block ∧ p.block < W.heap.size) → done.length ≤ 4096 → 0 < l.length →
    Calls Tryz.prog K (#[.slice A n cap] ++ caps) W fun e w' => e = .returned (.tuple #[]) ∧ J w' (done ++ [l]) ∧ Below B W w'
def TkPost (w : World) (B : Nat) (J : World → List (List UInt8) → Prop) (l : List (List UInt8)) (e : Ending) (w' : World) : Prop := e = .returned (.tuple #[]) ∧ J w' l ∧ Below B w w'

theorem texts_zero {K : FuncId} {caps : Array Value} {B : Nat} {J : World → List (List UInt8) → Prop} (done : List (List UInt8)) (A : Option Addr) (cap : Nat) (w : World) (hJ : J w done) :
    Calls Tryz.prog 150 #[.slice A 0 cap, .func (.func K) #[] caps] w (TkPost w B J (done ++ Pl.ttexts [])) := by
  have HJ := Lib.hid hJ
  clear hJ
  go_enter Tryz.func150, Tryz.ntmps150
  go_wp2_with fail
  go_end0
  exact ⟨rfl, by rw [Pl.ttexts_nil, List.append_nil]; exact HJ.out, Below.refl _ _⟩
set_option maxHeartbeats 1000000 in
theorem texts_one {K : FuncId} {caps : Array Value} {B : Nat} {J : World → List (List UInt8) → Prop} (T : Taker K caps B J) (done : List (List UInt8)) (l : List UInt8) (b off cap : Nat) (w : World) (P : Nat → Prop) (hJ : J w done) (hB : B ≤ w.heap.size) (hb : BR w P (some ⟨b, off, none⟩) [l]) (hd : done.length ≤ 4000) (hl : l.length ≤ 1000000) :
    Calls Tryz.prog 150 #[.slice (some ⟨b, off, none⟩) 1 cap, .func (.func K) #[] caps] w (TkPost w B J (done ++ Pl.ttexts [l])) := by
  obtain ⟨A, n, cap0, hc, hn, hnc, hm, hby, hp⟩ := hb.at_ (k := 0) (l := l) rfl
  have HE := T.enter
  have hn6 : n ≤ 1000000 := by omega
  have HL := leaf_more A cap0 l w hby (by omega)
  rw [hn] at HL
  have HL := Lib.hid HL
  have HN := Lib.hid hn
  have HT := Lib.hid T
  have HJ := Lib.hid hJ
  rw [Nat.add_zero] at hc
  clear hb hn hby hp hJ T
  go_enter Tryz.func150, Tryz.ntmps150
  go_wp2_with fail
  refine HL.out.mono ?_
  rintro e w2 ⟨A2, cap2, rfl, hb2, hbel2, hcc, hpp⟩
  obtain ⟨n2, hn2⟩ : ∃ m, n + 1 = m := ⟨_, rfl⟩
  rw [hn2] at hcc ⊢
  have HC := Lib.hid (HT.out.call w w2 A2 n2 cap2 (0 :: l) done HJ.out hB hbel2 (by rw [List.length_cons, HN.out, hn2]) hcc (by omega) hb2 hpp (by omega) (by simp))
  have HB2 := Lib.hid hbel2
  clear hb2 hbel2 hcc hpp hn2
  go_wp2_with fail
  refine HC.out.mono ?_
  rintro e w3 ⟨rfl, hj3, hb3⟩
  have J3 := Lib.hid hj3
  have B3 := Lib.hid ((HB2.out.mono hB).trans hb3)
  clear hj3 hb3
  go_wp2_with fail
  go_end0
  exact ⟨rfl, by rw [Pl.ttexts_one]; exact J3.out, B3.out⟩

set_option maxHeartbeats 4000000 in
set_option maxRecDepth 100000 in
theorem texts_step {K : FuncId} {caps : Array Value} {B : Nat} {J : World → List (List UInt8) → Prop} (T : Taker K caps B J) (P : Nat → Prop) (hP : ∀ b, P b → b < B) (ls : List (List UInt8)) (done : List (List UInt8)) (b off cap : Nat) (w : World) (hJ : J w done) (hB : B ≤ w.heap.size)
    (hb : BR w P (some ⟨b, off, none⟩) ls) (hn : 2 ≤ ls.length) (hc : ls.length ≤ cap) (hm : ls.length ≤ 1000) (hd : done.length + 2 * ls.length ≤ 4000)
    (ih : ∀ (ls' done' : List (List UInt8)) (b' off' cap' : Nat) (w' : World), ls'.length < ls.length → ls'.length ≤ cap' → J w' done' → B ≤ w'.heap.size → BR w' P (some ⟨b', off', none⟩) ls' → (∀ l ∈ ls', l ∈ ls) → done'.length + 2 * ls'.length ≤ 4000 →
      Calls Tryz.prog 150 #[.slice (some ⟨b', off', none⟩) ls'.length cap', .func (.func K) #[] caps] w' (TkPost w' B J (done' ++ Pl.ttexts ls'))) :
    Calls Tryz.prog 150 #[.slice (some ⟨b, off, none⟩) ls.length cap, .func (.func K) #[] caps] w (TkPost w B J (done ++ Pl.ttexts ls)) := by
  rw [Pl.ttexts_many ls hn]
  obtain ⟨k, hk⟩ : ∃ k, Pl.half ls.length = k := ⟨_, rfl⟩
  have hk1 := Pl.half_pos ls.length
  have hk2 := Pl.half_lt hn
  rw [hk] at hk1 hk2 ⊢
  have HE := T.enter
  have hT : ∀ W, BB W (some ⟨b, off, none⟩) (ls.take k) → Calls Tryz.prog 172 #[.slice (some ⟨b, off, none⟩) k cap] W fun e w' => e = .returned (hashVal (Pl.root (ls.take k))) ∧ Below W.heap.size W w' := by
    intro W hW
    have := root_any _ (ls.take k) (some ⟨b, off, none⟩) cap W (Nat.le_refl _) hW (by simp; omega) (by simp; omega)
    rwa [List.length_take, Nat.min_eq_left (Nat.le_of_lt hk2)] at this
  have hD : ∀ W, BB W (some ⟨b, off + k, none⟩) (ls.drop k) → Calls Tryz.prog 172 #[.slice (some ⟨b, off + k, none⟩) (ls.length - k) (cap - k)] W fun e w' => e = .returned (hashVal (Pl.root (ls.drop k))) ∧ Below W.heap.size W w' := by
    intro W hW
    have := root_any _ (ls.drop k) (some ⟨b, off + k, none⟩) (cap - k) W (Nat.le_refl _) hW (by simp; omega) (by simp; omega)
    rwa [List.length_drop] at this
  have iT : ∀ (done' : List (List UInt8)) (W : World), J W done' → B ≤ W.heap.size → BR W P (some ⟨b, off, none⟩) (ls.take k) → done'.length + 2 * k ≤ 4000 → Calls Tryz.prog 150 #[.slice (some ⟨b, off, none⟩) k cap, .func (.func K) #[] caps] W (TkPost W B J (done' ++ Pl.ttexts (ls.take k))) := by
    intro done' W h1 h2 h3 h4
    have := ih (ls.take k) done' b off cap W (by simp; omega) (by simp; omega) h1 h2 h3 (fun l hl => List.mem_of_mem_take hl) (by simp; omega)
    rwa [List.length_take, Nat.min_eq_left (Nat.le_of_lt hk2)] at this
  have iD : ∀ (done' : List (List UInt8)) (W : World), J W done' → B ≤ W.heap.size → BR W P (some ⟨b, off + k, none⟩) (ls.drop k) → done'.length + 2 * (ls.length - k) ≤ 4000 → Calls Tryz.prog 150 #[.slice (some ⟨b, off + k, none⟩) (ls.length - k) (cap - k), .func (.func K) #[] caps] W (TkPost W B J (done' ++ Pl.ttexts (ls.drop k))) := by
    intro done' W h1 h2 h3 h4
    have := ih (ls.drop k) done' b (off + k) (cap - k) W (by simp; omega) (by simp; omega) h1 h2 h3 (fun l hl => List.mem_of_mem_drop hl) (by simp; omega)
    rwa [List.length_drop] at this
  have ht := Lib.hid (hb.take k)
  have hd' := Lib.hid (hb.drop k)
  have HT := Lib.hid hT
  have HD := Lib.hid hD
  have IT := Lib.hid iT
  have ID := Lib.hid iD
  have HK := Lib.hid hk
  have TT := Lib.hid T
  have HJ := Lib.hid hJ
  have hld := Pl.ttexts_length k (ls.take k) (by rw [List.length_take, Nat.min_eq_left (Nat.le_of_lt hk2)]) hk1
  have HLD := Lib.hid hld
  have HHD := Lib.hid hd
  obtain ⟨n, hnn⟩ : ∃ n, ls.length = n := ⟨_, rfl⟩
  have HHN : Hid (ls.length = n) := hnn
  rw [hnn] at hn hc hm hk2 ID ⊢
  have HN := Lib.hid hnn
  have q0 : ((n : Int) == 0) = false := by simp; omega
  have q1 : ((n : Int) == 1) = false := by simp; omega
  clear hT hD iT iD hk ih hb hnn hJ T hld hd
  go_enter Tryz.func150, Tryz.ntmps150
  go_wp2_with fail
  refine (half_any n _ (by omega) (by omega)).mono ?_
  rintro e w' ⟨rfl, rfl⟩
  rw [← HN.out, HK.out, HN.out]
  have hlt : k < cap := by omega
  have hkl : k ≤ n := by omega
  have hx0 : (0 : Int) ≤ (k : Int) := by omega
  have hx1 : (k : Int) ≤ (cap : Int) := by omega
  have hx2 : (k : Int) ≤ (n : Int) := by omega
  have hx3 : ¬ cap = k := by omega
  have hr1 := Pl.root_lt (ls.take k)
  have hr2 := Pl.root_lt (ls.drop k)
  rw [HN.out] at HD
  go_wp2_with fail
  go_region_held3 (fun _ => True) (trivial) (first
    | (go_at_call 172; (with_reducible refine (HT.out _ ?_).mono ?_); exact ht.out.bb; rintro e w1 ⟨rfl, hb1'⟩; have hb1 := undrew hb1')
    | (go_at_call 172; (with_reducible refine (HD.out _ ?_).mono ?_); exact hd'.out.bb.keep hb1; rintro e w2 ⟨rfl, hb2⟩)
    | (go_at_call 176; refine (node_more _ _ w2 (by omega) (by omega)).mono ?_; rintro e w3 ⟨A3, cap3, rfl, hb3, hbel3, hcc, hpp⟩
       have H13 := Lib.hid (hb1.trans ((hb2.trans (hbel3.mono hb2.size)).mono hb1.size))
       have HC := Lib.hid (TT.out.call w w3 A3 9 cap3 _ done HJ.out hB H13.out (by simp [Pl.be_length]) hcc (by omega) hb3 (fun p hp => ⟨by have := hpp p hp; have := hb1.size; have := hb2.size; omega, (hpp p hp).2⟩) (by have := HHD.out; omega) (by simp)))
    | (refine HC.out.mono ?_
       rintro e w4 ⟨rfl, hj4, hb4⟩
       have J4 := Lib.hid hj4
       have B4 := Lib.hid ((H13.out.mono hB).trans hb4)
       clear hj4 hb4)
    | fail)
  have b4s := B4.out.size
  have C1 := Lib.hid (IT.out _ w4 J4.out (Nat.le_trans hB b4s) (ht.out.keepB B4.out hP) (by have := HHD.out; have := HN.out; rw [List.length_append, List.length_singleton]; omega))
  clear hb1' hb1 hb2 hb3 hbel3 hcc hpp
  go_wp2_with fail
  refine C1.out.mono ?_
  rintro e w5 ⟨rfl, hj5, hb5⟩
  have J5 := Lib.hid hj5
  have B5 := Lib.hid (B4.out.trans hb5)
  have C2 := Lib.hid (ID.out _ w5 J5.out (Nat.le_trans hB B5.out.size) (hd'.out.keepB B5.out hP) (by have := HHD.out; have := HLD.out; have := HN.out; simp only [List.length_append, List.length_singleton]; omega))
  clear hj5 hb5 b4s
  go_wp2_with fail
  refine C2.out.mono ?_
  rintro e w6 ⟨rfl, hj6, hb6⟩
  have J6 := Lib.hid hj6
  have B6 := Lib.hid (B5.out.trans hb6)
  clear hj6 hb6
  go_wp2_with fail
  go_end0
  exact ⟨rfl, by simpa using J6.out, B6.out⟩

theorem texts_call {K : FuncId} {caps : Array Value} {B : Nat} {J : World → List (List UInt8) → Prop} (T : Taker K caps B J) (P : Nat → Prop) (hP : ∀ b, P b → b < B) (n : Nat) : ∀ (ls done : List (List UInt8)) (b off cap : Nat) (w : World), ls.length ≤ n → J w done → B ≤ w.heap.size →
    BR w P (some ⟨b, off, none⟩) ls → ls.length ≤ cap → ls.length ≤ 1000 → (∀ l ∈ ls, l.length ≤ 1000000) → done.length + 2 * ls.length ≤ 4000 →
    Calls Tryz.prog 150 #[.slice (some ⟨b, off, none⟩) ls.length cap, .func (.func K) #[] caps] w (TkPost w B J (done ++ Pl.ttexts ls)) := by
  induction n with
  | zero =>
    intro ls done b off cap w hn hJ _ _ _ _ _ _
    obtain rfl : ls = [] := List.eq_nil_of_length_eq_zero (by omega)
    exact texts_zero done _ cap w hJ
  | succ n ih =>
    intro ls done b off cap w hn hJ hB hb hc hm hl hd
    rcases Nat.lt_or_ge ls.length 2 with h2 | h2
    · match ls, h2 with
      | [], _ => exact texts_zero done _ cap w hJ
      | [l], _ => exact texts_one T done l b off cap w P hJ hB hb (by simp at hd; omega) (hl l (by simp))
    · refine texts_step T P hP ls done b off cap w hJ hB hb h2 hc hm hd (fun ls' done' b' off' cap' w' h1 h3 h4 h5 h6 h7 h8 => ih ls' done' b' off' cap' w' (by omega) h4 h5 h6 h3 (by omega) (fun l hl' => hl l (h7 l hl')) h8)
end Go.Proofs.YtljmklohgpaopaaGreatDoor

namespace Go.Proofs.YtljmklohgpaopaaGreatDoor
open Go.RowKit

/-- A text as an element. -/
def StR (w : World) (P : Nat → Prop) (c : List Value) (l : List UInt8) : Prop := c = [.string (tstr l)] ∧ l.length ≤ 140737488351232
theorem StR.fr : Fr StR := fun _ _ _ _ _ _ _ h _ _ _ => h
abbrev SL := OL 9 1 StR
theorem RowsR.strs {w : World} {P : Nat → Prop} : ∀ {ls : List (List UInt8)} {cs : List Value}, RowsR 1 (StR w P) cs ls → cs = ls.map fun l => .string (tstr l)
  | [], cs, h => List.eq_nil_of_length_eq_zero (by rw [h.1]; rfl)
  | l :: r, cs, h => by
    obtain ⟨c, ⟨rfl, _⟩, _, hc⟩ := h.at_ (k := 0) (x := l) rfl
    have h0 := hc 0 (by omega)
    cases cs with
    | nil => have := h.1; simp at this
    | cons a t =>
      simp only [Nat.zero_mul, Nat.add_zero, List.getElem?_cons_zero, Option.some.injEq] at h0
      subst h0
      rw [List.map_cons]
      exact congrArg _ (RowsR.strs (h.drop1 1))
def StrsPost (w : World) (ls : List (List UInt8)) (e : Ending) (w' : World) : Prop := ∃ v, e = .returned v ∧ SL w' w.heap.size v ls ∧ Below w.heap.size w w'
theorem Tryz.infoStr : (Tryz.prog.info? 9).map (fun i => (i.zero, i.size, i.bytes)) = some (some (.string ⟨#[]⟩), 1, 16) := by kernel_rfl
set_option maxHeartbeats 2000000 in
set_option maxRecDepth 100000 in
theorem refTexts_any (P : Nat → Prop) (c : List Value) (t : Pl.Txn) (w : World) (hR : TxR w P c t) (hP : ∀ b, P b → b < w.heap.size) (hok : ∀ o ∈ t.ops, Pl.OpOk o) (hl : t.ops.length ≤ 256) :
    Calls Tryz.prog 43 #[.agg c.toArray] w (StrsPost w (t.ops.map Pl.encOp)) := by
  obtain ⟨i0, hi0, hz0, hz1, hz2⟩ := info_parts Tryz.infoStr
  obtain ⟨A, cap, cs, rfl, hcap, hs, hrows, hA⟩ := hR
  obtain ⟨time, ops⟩ := t
  dsimp only at hcap hrows hok hl ⊢
  obtain ⟨n, hn⟩ : ∃ n, ops.length = n := ⟨_, rfl⟩
  rw [hn] at hcap hl ⊢
  obtain ⟨wb, hwb⟩ : ∃ wb, w.alloc (.cells #[.int .i64 (sig time), .slice A n cap] 90) = wb := ⟨_, rfl⟩
  obtain ⟨gb, hgb⟩ : ∃ g, w.heap.size = g := ⟨_, rfl⟩
  have BB : Blk wb gb 90 [.int .i64 (sig time), .slice A n cap] := by rw [← hwb, ← hgb]; exact Blk.new w 90 _
  have hbb : Below w.heap.size w wb := by rw [← hwb]; exact below_alloc _ _
  have HD := Lib.hid (show ∀ W, Below wb.heap.size wb W → W.cell? ⟨gb, 1, none⟩ = some (.slice A n cap) from fun W hb => (BB.below hb BB.lt).cell 1)
  have hsz := hbb.size
  have HSZ : Hid (wb.heap.size = w.heap.size + 1) := by rw [Hid, ← hwb]; simp
  have HN := Lib.hid hn
  have HS := Lib.hid (hs.below hbb)
  have HRW := Lib.hid (hrows.mono (fun _ _ _ h => OpR.fr _ _ P _ wb _ _ h (Only.of_below hbb (fun _ => False)) (fun _ _ h => h) (fun _ h => h)))
  have HOK := Lib.hid hok
  have HP := Lib.hid hP
  have HBB := Lib.hid hbb
  have HI := Lib.hid (And.intro hi0 (And.intro hz0 (And.intro hz1 hz2)))
  have d0 := HD.out wb (Below.refl _ _)
  clear hn hs hrows hok hP hbb BB hi0 hz0 hz1 hz2 hsz
  go_enter Tryz.func43, Tryz.ntmps43
  go_wp2_with fail
  go_loopw [3, 4] (fun u i wr => ∃ k : Nat, k ≤ n ∧ i = .int .i64 (k : Int) ∧ Hid (SL wr wb.heap.size u ((ops.take k).map Pl.encOp)) ∧ Hid (Below wb.heap.size wb wr)) (fun _ i _ => n - (intOf i).toNat)
  case atStart => exact ⟨0, Nat.zero_le _, rfl, OL.nil _ _, Below.refl _ _⟩
  case round =>
    obtain ⟨k, hk, rfl, HO, HB⟩ := hrel
    have d1 := HD.out _ HB.out
    clear d0
    by_cases hkn : k < n
    · have q1 : (k : Int) < (n : Int) := by omega
      have q3 : (0 : Int) ≤ (k : Int) := by omega
      obtain ⟨o, hc⟩ : ∃ c, ops[k]? = some c := ⟨_, List.getElem?_eq_getElem (by rw [HN.out]; exact hkn)⟩
      obtain ⟨c, hor, _, hcell⟩ := HRW.out.at_ hc
      have hok := HOK.out o (List.mem_of_getElem? hc)
      have hor2 := hor.only (Only.of_below HB.out (fun _ => False)) (fun _ _ h => h)
      obtain ⟨Ac, cc, Ar, cr, rfl, _⟩ := hor
      have hsr := HS.out.below HB.out
      obtain ⟨b, off, rfl, g0⟩ := hsr.at_ _ _ (hcell 0 (by omega))
      have g1 := hsr.cell _ _ (hcell 1 (by omega))
      have g2 := hsr.cell _ _ (hcell 2 (by omega))
      have g3 := hsr.cell _ _ (hcell 3 (by omega))
      rw [← Nat.add_assoc] at g1 g2 g3
      rw [Nat.add_zero] at g0
      have hT := refOpText_any P _ o wr hor2 (fun b hb => by have := HP.out b hb; have := HSZ.out; have := HB.out.size; omega) hok
      obtain ⟨x, hx⟩ : ∃ x, Pl.encOp o = x := ⟨_, rfl⟩
      have hlen := encOp_len hok
      rw [hx] at hT hlen
      have HT := Lib.hid hT
      have HX := Lib.hid hx
      have HC := Lib.hid hc
      have HLEN := Lib.hid hlen
      clear hc hcell hok hsr hor2 hT hx hlen
      go_wp2_with fail
      refine HT.out.mono ?_
      rintro e w3 ⟨rfl, hb3⟩
      have O3 := Lib.hid (HO.out.below StR.fr hb3)
      have B3 := Lib.hid (HB.out.trans (hb3.mono HB.out.size))
      obtain ⟨W3, hW3⟩ : ∃ W, w3.alloc (.cells #[.string (tstr x)] 9) = W := ⟨_, rfl⟩
      have hb4 : Below w3.heap.size w3 W3 := by rw [← hW3]; exact below_alloc _ _
      have S4 : Hid (Src W3 (some ⟨w3.heap.size, 0, none⟩) [.string (tstr x)]) := Src.of_blk (t := 9) (by rw [← hW3]; exact Blk.new w3 9 _)
      have O4 := Lib.hid (O3.out.below StR.fr hb4)
      have B4 := Lib.hid (B3.out.trans (hb4.mono B3.out.size))
      have HLN : Hid (((ops.take k).map Pl.encOp).length ≤ 4294967296) := by rw [Hid, List.length_map, List.length_take]; omega
      have R4 : Hid (StR W3 (fun b => wb.heap.size ≤ b ∧ b < W3.heap.size ∧ u3.ownBlock ≠ some b) [.string (tstr x)] x) := ⟨rfl, by have := HLEN.out; omega⟩
      clear hb3 hb4
      go_wp2_with (first
        | (at_builtin
           refine wpList_ol (v := u3) StR.fr rfl (.tmp 19) (.tmp 21) 22 rfl Tryz.underlying22 HI.out.1 HI.out.2.1 HI.out.2.2.1 HI.out.2.2.2 rfl (by decide) rfl O4.out (some ⟨w3.heap.size, 0, none⟩) 1 [.string (tstr x)] x rfl rfl S4.out (by simp; rfl) R4.out HLN.out (by decide) B4.out.size ?_
           intro v5 w5 o5 m5
           have O5 : Hid (SL w5 wb.heap.size v5 ((ops.take (k + 1)).map Pl.encOp)) := by rw [Hid, List.take_add_one, HC.out, List.map_append]; rw [← HX.out] at o5; exact o5
           have B5 : Hid (Below wb.heap.size wb w5) := B4.out.trans (m5.only.toBelow B4.out.size (fun b hb e => by have := (O4.out.lt b e).1; omega))
           clear o5 m5)
        | fail)
      exact ⟨⟨k + 1, by omega, by go_num, O5.out, B5.out⟩, by simp [intOf]; omega⟩
    · obtain rfl : k = n := by omega
      have HO2 : Hid (SL wr w.heap.size u3 (ops.map Pl.encOp)) := by
        have := HO.out.low StR.fr (base' := w.heap.size) (by have := HSZ.out; omega)
        rw [List.take_of_length_le (by rw [HN.out]; exact Nat.le_refl _)] at this
        exact this
      clear HO
      go_wp2_with fail
      go_ret
      exact ⟨_, rfl, HO2.out, HBB.out.trans (HB.out.mono (by have := HSZ.out; omega))⟩
end Go.Proofs.YtljmklohgpaopaaGreatDoor
