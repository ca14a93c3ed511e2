/- The walk of the codec's AreColumns: a map that the call makes counts the names. The walk of the codec's AreColumns. The walks of the harness's lentAll and stayAll. The walk of the codec's Columns. -/
import Derived.Test.YtljmklohgpaopaaGreatDoorMgClashes6
import Derived.Maps.OwnOps
import Derived.Maps.Views
import Derived.WalkKit
set_option linter.unusedVariables false
set_option linter.unusedSimpArgs false

namespace Go.Proofs.YtljmklohgpaopaaGreatDoor
open Go.RowKit Go.Maps Go.WideMaps

def clc (c : Pl.Cl) : List Value := [.string (tstr c.name), .int .i64 (c.ty : Nat)]
def clcs (cs : List Pl.Cl) : List Value := cs.flatMap clc
theorem clcs_append (a b : List Pl.Cl) : clcs (a ++ b) = clcs a ++ clcs b := by simp [clcs]
theorem clcs_one (v : Pl.Cl) : clcs [v] = clc v := by simp [clcs]
theorem clc_one (v : Pl.Cl) : ∀ u ∈ clc v, u.oneCell' = true := by
  intro u hu
  simp [clc] at hu
  rcases hu with rfl | rfl <;> rfl
theorem clcs_at : ∀ (cols : List Pl.Cl) (k : Nat) (c : Pl.Cl), cols[k]? = some c → (clcs cols)[k * 2]? = some (.string (tstr c.name)) ∧ (clcs cols)[k * 2 + 1]? = some (.int .i64 (c.ty : Nat))
  | [], k, c, h => by simp at h
  | a :: r, 0, c, h => by
    simp at h
    subst h
    exact ⟨rfl, rfl⟩
  | a :: r, k + 1, c, h => by
    have ih := clcs_at r k c (by simpa using h)
    rw [show (k + 1) * 2 = k * 2 + 1 + 1 by omega]
    simpa [clcs, clc] using ih

theorem Tryz.keyLaw : Keyed Tryz.prog 9 := string_keyed Tryz.underlying9
theorem Tryz.zeroInt (w : World) : (zeroValue 3).run Tryz.prog w = .ok (.int .i64 0) w := by kernel_rfl
/-- Block b is a map that has counted these names. -/
def SeenAt (w : World) (b k : Nat) (names : List (List UInt8)) : Prop :=
  ∃ D : DataW Unit, w.ownsMap Tryz.prog 9 (plainElem Tryz.prog 3) b k D ∧ ∀ s : List UInt8, D.atKey (.string s) (.lit (.int .i64 0)) = .lit (.int .i64 ((names.count s : Nat) : Int))
theorem SeenAt.heap {w w' : World} {b k : Nat} {names : List (List UInt8)} (h : SeenAt w b k names) (hh : w'.heap[b]? = w.heap[b]?) : SeenAt w' b k names := by
  obtain ⟨D, ⟨es, clock, h1, h2⟩, h3⟩ := h
  exact ⟨D, ⟨es, clock, hh.trans h1, h2⟩, h3⟩
theorem SeenAt.made (w : World) : SeenAt (w.alloc (.map #[] 0)) w.heap.size 0 [] := ⟨.map [], World.ownsMap_made _ _ _ _, fun s => rfl⟩
theorem SeenAt.lt {w : World} {b k : Nat} {names : List (List UInt8)} (h : SeenAt w b k names) : b < w.heap.size := by
  obtain ⟨D, ⟨es, clock, h1, h2⟩, h3⟩ := h
  rcases Nat.lt_or_ge b w.heap.size with h | h
  · exact h
  · rw [Array.getElem?_eq_none h] at h1; cases h1
set_option maxRecDepth 100000 in
theorem SeenAt.look {w : World} {b k : Nat} {names : List (List UInt8)} (h : SeenAt w b k names) (nm : List UInt8) (hn : nm.length ≤ 255) :
    (Instr.lookup 314 (.map (some b)) (.string (tstr nm)) false).run Tryz.prog w = .ok (.int .i64 ((names.count nm : Nat) : Int)) w := by
  obtain ⟨D, hown, h3⟩ := h
  have hkey : keyOf Tryz.prog 9 (.string (tstr nm)) = some (.string nm) := keyOf_string_mk Tryz.underlying9 (by rw [tstr_size]; unfold maxLen; omega)
  obtain ⟨c, hrun, hat, _⟩ := hown.lookup_int Tryz.keyLaw Tryz.underlying314 Tryz.underlying3 (Tryz.zeroInt _) hkey
  rw [h3] at hat
  injection hat with hat
  injection hat with _ hat
  rw [hat]
  exact hrun
theorem seen_step {w : World} {b k : Nat} {names : List (List UInt8)} {D : DataW Unit} {nm : List UInt8} {c : Int} (h3 : ∀ s : List UInt8, D.atKey (.string s) (.lit (.int .i64 0)) = .lit (.int .i64 ((names.count s : Nat) : Int)))
    (hD : IsMap D) (hc : c = ((names.count nm : Nat) : Int) + 1) (h : w.ownsMap Tryz.prog 9 (plainElem Tryz.prog 3) b k (D.put (.string nm) (.lit (.int .i64 c)))) : SeenAt w b k (names ++ [nm]) := by
  refine ⟨_, h, fun s => ?_⟩
  by_cases hs : s = nm
  · subst hs
    rw [atKey_put_same hD (show WideAt.IsKeyLit (.string s) from trivial), hc, List.count_append]
    simp
  · rw [atKey_put_other (by intro e; injection e with e; exact hs e), h3, List.count_append]
    have : List.count s [nm] = 0 := List.count_eq_zero.2 (by simpa using hs)
    rw [this]; rfl
theorem cols_next {cols : List Pl.Cl} {k : Nat} {c : Pl.Cl} (hk : cols[k]? = some c) (h1 : ∀ x ∈ cols.take k, Pl.ClOk x) (h2 : ((cols.take k).map Pl.Cl.name).Nodup) (hc : Pl.ClOk c) (hm : ((cols.take k).map Pl.Cl.name).count c.name = 0) :
    (∀ x ∈ cols.take (k + 1), Pl.ClOk x) ∧ ((cols.take (k + 1)).map Pl.Cl.name).Nodup := by
  rw [List.take_add_one, hk]
  refine ⟨fun x hx => ?_, ?_⟩
  · rcases List.mem_append.1 hx with hx | hx
    · exact h1 x hx
    · simp at hx; subst hx; exact hc
  · rw [List.map_append, List.nodup_append]
    refine ⟨h2, by simp, fun a ha b hb => ?_⟩
    simp at hb
    subst hb
    rintro rfl
    exact List.count_eq_zero.1 hm ha
theorem cols_bad {cols : List Pl.Cl} {k : Nat} {c : Pl.Cl} (hk : cols[k]? = some c) (h : ¬ Pl.ClOk c ∨ 0 < ((cols.take k).map Pl.Cl.name).count c.name) : ¬ Pl.ClsOk cols := by
  rintro ⟨_, h1, h2⟩
  rcases h with h | h
  · exact h (h1 c (List.mem_of_getElem? hk))
  · have e : cols = cols.take k ++ cols.drop k := (List.take_append_drop k cols).symm
    have hlt : k < cols.length := by
      rcases Nat.lt_or_ge k cols.length with h' | h'
      · exact h'
      · rw [List.getElem?_eq_none h'] at hk; cases hk
    have hd : cols.drop k = c :: cols.drop (k + 1) := by
      rw [List.drop_eq_getElem_cons hlt]
      rw [List.getElem?_eq_getElem hlt] at hk
      rw [Option.some.inj hk]
    rw [e, hd, List.map_append, List.nodup_append] at h2
    exact h2.2.2 c.name (List.count_pos_iff.1 h) c.name (by simp) rfl
end Go.Proofs.YtljmklohgpaopaaGreatDoor

namespace Go.Proofs.YtljmklohgpaopaaGreatDoor
open Go.RowKit Go.Maps Go.WideMaps

theorem facts2 {w : World} {g : Nat} {t : TypeId} {a0 a1 : Value} (h : Blk w g t [a0, a1]) :
    w.cell? ⟨g, 0, none⟩ = some a0 ∧ w.cell? ⟨g, 1, none⟩ = some a1 ∧ w.frozen? ⟨g, 0, none⟩ = false ∧ w.frozen? ⟨g, 1, none⟩ = false := ⟨h.cell 0, h.cell 1, h.frozen 0, h.frozen 1⟩
set_option maxRecDepth 100000 in
set_option maxHeartbeats 2000000 in
theorem areColumns_any (A : Option Addr) (cap : Nat) (cols : List Pl.Cl) (w : World) (hs : Src w A (clcs cols)) (hA : ∀ p, A = some p → p.block < w.heap.size) (hb : ∀ c ∈ cols, c.name.length ≤ 255 ∧ c.ty < 256) :
    Calls Tryz.prog 195 #[.slice A cols.length cap] w fun e w' => e = .returned (.bool (decide (Pl.ClsOk cols))) ∧ Below w.heap.size w w' := by
  have hmm := @run_makeMap Tryz.prog
  obtain ⟨n, hn⟩ : ∃ n, cols.length = n := ⟨_, rfl⟩
  have HN := Lib.hid hn
  rw [hn]
  by_cases h1 : 1 ≤ n
  · by_cases h2 : n ≤ 4
    · have hne : 0 < (clcs cols).length := by
        match cols, hn with
        | [], hn => simp at hn; omega
        | a :: r, _ => simp [clcs, clc]
      obtain ⟨b, off, rfl⟩ := hs.addr hne
      have hbl := hA _ rfl
      have q1 : ¬ (n : Int) < 1 := by omega
      have q2 : ¬ (4 : Int) < (n : Int) := by omega
      have d1 := decide_eq_false q1
      have d2 := decide_eq_false q2
      have HS := Lib.hid hs
      have HB := Lib.hid hb
      clear hA hs hb hne hn
      go_enter Tryz.func195, Tryz.ntmps195
      go_wp2_with fail
      go_loopw [17] (fun i wr => ∃ k : Nat, k ≤ n ∧ i = .int .i64 (k : Int) ∧ Below w.heap.size w wr ∧ Hid (SeenAt wr w.heap.size k ((cols.take k).map Pl.Cl.name)) ∧ Hid ((∀ x ∈ cols.take k, Pl.ClOk x) ∧ ((cols.take k).map Pl.Cl.name).Nodup)) (fun i _ => n - (intOf i).toNat)
      case atStart => exact ⟨0, Nat.zero_le _, rfl, (Below.refl _ _).alloc (Nat.le_refl _) _, SeenAt.made w, by simp, by simp⟩
      case round =>
        obtain ⟨k, hk, rfl, hbel, HSN, HOK⟩ := hrel
        by_cases hkn : k < n
        · have q3 : (k : Int) < (n : Int) := by omega
          have hkl : k < cols.length := by rw [HN.out]; exact hkn
          obtain ⟨c, hc⟩ : ∃ c, cols[k]? = some c := ⟨_, List.getElem?_eq_getElem hkl⟩
          have HC := Lib.hid hc
          have hcb := HB.out c (List.mem_of_getElem? hc)
          obtain ⟨at0, at1⟩ := clcs_at cols k c hc
          have g0 := (HS.out.below hbel).cell _ _ at0
          have g1 := (HS.out.below hbel).cell _ _ at1
          rw [← Nat.add_assoc] at g1
          obtain ⟨nm, ty⟩ := c
          dsimp only at g0 g1 hcb
          clear at0 at1 hc hkl
          have hNM : Hid (nm.length ≤ 255) := hcb.1
          have hty := hcb.2
          clear hcb
          obtain ⟨bm, hbm⟩ : ∃ bm, w.heap.size = bm := ⟨_, rfl⟩
          rw [hbm] at HSN ⊢
          have HBM := Lib.hid hbm
          obtain ⟨b5, hb5⟩ : ∃ b5, wr.heap.size = b5 := ⟨_, rfl⟩
          obtain ⟨wz, hwz⟩ : ∃ wz, wr.alloc (.cells #[.string ⟨#[]⟩, .int .i64 0] 224) = wz := ⟨_, rfl⟩
          have BZ : Blk wz b5 224 [.string ⟨#[]⟩, .int .i64 0] := by rw [← hwz, ← hb5]; exact Blk.new wr 224 _
          have hbz : Below wr.heap.size wr wz := by rw [← hwz]; exact (Below.refl _ _).alloc (Nat.le_refl _) _
          obtain ⟨z0, z1, y0, y1⟩ := facts2 BZ
          obtain ⟨w1, hw1⟩ : ∃ w1, (wz.setCell ⟨b5, 0, none⟩ (.string (tstr nm))).setCell ⟨b5, 1, none⟩ (.int .i64 (ty : Int)) = w1 := ⟨_, rfl⟩
          have hbl1 : Below wr.heap.size wr w1 := by
            rw [← hw1]
            have h1 : wr.heap.size ≤ b5 := by omega
            exact (hbz.setCell (p := ⟨b5, 0, none⟩) h1 _).setCell (p := ⟨b5, 1, none⟩) h1 _
          have B1 : Blk w1 b5 224 [.string (tstr nm), .int .i64 (ty : Int)] := by
            rw [← hw1]
            exact (BZ.set_ 0 _).set_ 1 _
          have HBEL1 := Lib.hid (hbel.trans (hbl1.mono hbel.size))
          have hsn1 : SeenAt w1 bm k ((cols.take k).map Pl.Cl.name) := HSN.out.heap (hbl1.block bm HSN.out.lt)
          have hml : bm ≠ b5 := by
            have := HSN.out.lt
            omega
          obtain ⟨m, hm⟩ : ∃ m, ((cols.take k).map Pl.Cl.name).count nm = m := ⟨_, rfl⟩
          have hm4 : m ≤ 4 := by
            rw [← hm]
            refine Nat.le_trans List.count_le_length ?_
            rw [List.length_map, List.length_take]
            omega
          have hlook := hsn1.look nm hNM.out
          rw [hm] at hlook
          have HM := Lib.hid hm
          obtain ⟨D, hown, hcnt⟩ := hsn1
          have HCNT := Lib.hid hcnt
          have HOWN := Lib.hid hown
          have HB5 := Lib.hid B1
          obtain ⟨c0, c1, f0, f1⟩ := facts2 B1
          have hkey := Lib.hid (keyOf_string_mk Tryz.underlying9 (s := tstr nm) (by rw [tstr_size]; unfold maxLen; have := hNM.out; omega))
          clear hbl1 hbz BZ B1 hcnt hown hm hbm
          have hwf : Hid ((Lit.int .i64 ((m : Int) + 1)).wf = true) := by
            show (decide ((-9223372036854775808 : Int) ≤ (m : Int) + 1) && decide ((m : Int) + 1 ≤ 9223372036854775807)) = true
            rw [decide_eq_true (by omega), decide_eq_true (by omega)]
            rfl
          go_wp2_with (first
            | (at_mapUpdate; refine wpList_mapUpdate_own _ rfl _ _ _ 314 rfl 9 3 Tryz.keyLaw Tryz.underlying314 _ bm k _ rfl HOWN.out (by unfold maxLen; omega) _ _ _ rfl rfl hkey.out _ [] (plainElem_int Tryz.underlying3 hwf.out) ?_)
            | fail)
          intro w2 hown2 hgrow2
          have HSN2 : Hid (SeenAt w2 bm (k + 1) ((cols.take (k + 1)).map Pl.Cl.name)) := by
            have h9 := seen_step HCNT.out HOWN.out.isMap (c := (m : Int) + 1) (by rw [show (tstr nm).data.toList = nm from rfl, HM.out]) hown2
            rw [Hid, List.take_add_one, HC.out, List.map_append]
            exact h9
          have HM2 : Hid (((cols.take (k + 1)).map Pl.Cl.name).count nm = m + 1) := by
            rw [Hid, List.take_add_one, HC.out, List.map_append, List.count_append, HM.out]
            simp
          have HB52 := Lib.hid (HB5.out.grown hgrow2 (by simpa using Ne.symm hml))
          have HBEL2 := Lib.hid (HBEL1.out.grown hgrow2 HBEL1.out.size (fun j hj => by cases hj; rw [HBM.out]; exact Nat.le_refl _))
          have HIS := Lib.hid (isName_any (tstr nm) w2 (by rw [tstr_size]; have := hNM.out; omega))
          clear c0 c1 f0 f1 hown2 hgrow2 hlook g0 g1 z0 z1 y0 y1 HOWN HCNT
          obtain ⟨c0, c1, f0, f1⟩ := facts2 HB52.out
          by_cases hok : Pl.NameOk nm
          · rw [show decide (Pl.NameOk (tstr nm).data.toList) = true from decide_eq_true hok] at HIS
            by_cases t1 : ty = 1
            · by_cases m0 : m = 0
              · have p1 : (((ty : Nat) : Int) == 1) = true := by rw [t1]; rfl
                have p2 : (((ty : Nat) : Int) != 1) = false := by rw [t1]; rfl
                have r1 : ¬ (1 : Int) < (m : Int) + 1 := by omega
                have r2 := decide_eq_false r1
                go_wp2_with fail
                refine HIS.out.mono ?_
                rintro e w3 ⟨rfl, hb3⟩
                have HB53 := HB52.out.below hb3 HB52.out.lt
                have HSN3 := HSN2.out.heap (hb3.block bm HSN2.out.lt)
                have HBEL3 := Lib.hid (HBEL2.out.trans (hb3.mono HBEL2.out.size))
                have hlook3 := HSN3.look nm hNM.out
                rw [HM2.out] at hlook3
                obtain ⟨e0, e1, k0, k1⟩ := facts2 HB53
                have HSN3 := Lib.hid HSN3
                clear hb3 HB53
                go_wp2_with fail
                have hnx := cols_next HC.out HOK.out.1 HOK.out.2 ⟨hok, .inl t1⟩ (by rw [HM.out]; exact m0)
                go_round
                case rel => exact ⟨k + 1, by omega, by simp, (by rw [← HBM.out]; exact HBEL3.out), HSN3.out, hnx.1, hnx.2⟩
                case measure => simp [intOf]; omega
              · have p1 : (((ty : Nat) : Int) == 1) = true := by rw [t1]; rfl
                have p2 : (((ty : Nat) : Int) != 1) = false := by rw [t1]; rfl
                have r1 : (1 : Int) < (m : Int) + 1 := by omega
                have r2 := decide_eq_true r1
                go_wp2_with fail
                refine HIS.out.mono ?_
                rintro e w3 ⟨rfl, hb3⟩
                have HB53 := HB52.out.below hb3 HB52.out.lt
                have HSN3 := HSN2.out.heap (hb3.block bm HSN2.out.lt)
                have HBEL3 := Lib.hid (HBEL2.out.trans (hb3.mono HBEL2.out.size))
                have hlook3 := HSN3.look nm hNM.out
                rw [HM2.out] at hlook3
                obtain ⟨e0, e1, k0, k1⟩ := facts2 HB53
                have HSN3 := Lib.hid HSN3
                clear hb3 HB53
                go_wp2_with fail
                go_ret
                have hd : decide (Pl.ClsOk cols) = false := decide_eq_false (cols_bad HC.out (.inr (by rw [HM.out]; omega)))
                rw [hd]
                exact ⟨rfl, HBEL3.out⟩
            · by_cases t2 : ty = 2
              · by_cases m0 : m = 0
                · have p1 : (((ty : Nat) : Int) == 1) = false := beq_eq_false_iff_ne.2 (by omega)
                  have p2 : (((ty : Nat) : Int) != 1) = true := by rw [bne, p1]; rfl
                  have p3 : (((ty : Nat) : Int) == 2) = true := by rw [t2]; rfl
                  have p4 : (((ty : Nat) : Int) != 2) = false := by rw [t2]; rfl
                  have r1 : ¬ (1 : Int) < (m : Int) + 1 := by omega
                  have r2 := decide_eq_false r1
                  go_wp2_with fail
                  refine HIS.out.mono ?_
                  rintro e w3 ⟨rfl, hb3⟩
                  have HB53 := HB52.out.below hb3 HB52.out.lt
                  have HSN3 := HSN2.out.heap (hb3.block bm HSN2.out.lt)
                  have HBEL3 := Lib.hid (HBEL2.out.trans (hb3.mono HBEL2.out.size))
                  have hlook3 := HSN3.look nm hNM.out
                  rw [HM2.out] at hlook3
                  obtain ⟨e0, e1, k0, k1⟩ := facts2 HB53
                  have HSN3 := Lib.hid HSN3
                  clear hb3 HB53
                  go_wp2_with fail
                  have hnx := cols_next HC.out HOK.out.1 HOK.out.2 ⟨hok, .inr t2⟩ (by rw [HM.out]; exact m0)
                  go_round
                  case rel => exact ⟨k + 1, by omega, by simp, (by rw [← HBM.out]; exact HBEL3.out), HSN3.out, hnx.1, hnx.2⟩
                  case measure => simp [intOf]; omega
                · have p1 : (((ty : Nat) : Int) == 1) = false := beq_eq_false_iff_ne.2 (by omega)
                  have p2 : (((ty : Nat) : Int) != 1) = true := by rw [bne, p1]; rfl
                  have p3 : (((ty : Nat) : Int) == 2) = true := by rw [t2]; rfl
                  have p4 : (((ty : Nat) : Int) != 2) = false := by rw [t2]; rfl
                  have r1 : (1 : Int) < (m : Int) + 1 := by omega
                  have r2 := decide_eq_true r1
                  go_wp2_with fail
                  refine HIS.out.mono ?_
                  rintro e w3 ⟨rfl, hb3⟩
                  have HB53 := HB52.out.below hb3 HB52.out.lt
                  have HSN3 := HSN2.out.heap (hb3.block bm HSN2.out.lt)
                  have HBEL3 := Lib.hid (HBEL2.out.trans (hb3.mono HBEL2.out.size))
                  have hlook3 := HSN3.look nm hNM.out
                  rw [HM2.out] at hlook3
                  obtain ⟨e0, e1, k0, k1⟩ := facts2 HB53
                  have HSN3 := Lib.hid HSN3
                  clear hb3 HB53
                  go_wp2_with fail
                  go_ret
                  have hd : decide (Pl.ClsOk cols) = false := decide_eq_false (cols_bad HC.out (.inr (by rw [HM.out]; omega)))
                  rw [hd]
                  exact ⟨rfl, HBEL3.out⟩
              · have p1 : (((ty : Nat) : Int) == 1) = false := beq_eq_false_iff_ne.2 (by omega)
                have p2 : (((ty : Nat) : Int) != 1) = true := by rw [bne, p1]; rfl
                have p3 : (((ty : Nat) : Int) == 2) = false := beq_eq_false_iff_ne.2 (by omega)
                have p4 : (((ty : Nat) : Int) != 2) = true := by rw [bne, p3]; rfl
                go_wp2_with fail
                refine HIS.out.mono ?_
                rintro e w3 ⟨rfl, hb3⟩
                have HB53 := HB52.out.below hb3 HB52.out.lt
                have HSN3 := HSN2.out.heap (hb3.block bm HSN2.out.lt)
                have HBEL3 := Lib.hid (HBEL2.out.trans (hb3.mono HBEL2.out.size))
                have hlook3 := HSN3.look nm hNM.out
                rw [HM2.out] at hlook3
                obtain ⟨e0, e1, k0, k1⟩ := facts2 HB53
                have HSN3 := Lib.hid HSN3
                clear hb3 HB53
                go_wp2_with fail
                go_ret
                have hd : decide (Pl.ClsOk cols) = false := decide_eq_false (cols_bad HC.out (.inl (fun h => by have := h.2; dsimp only at this; omega)))
                rw [hd]
                exact ⟨rfl, HBEL3.out⟩
          · rw [show decide (Pl.NameOk (tstr nm).data.toList) = false from decide_eq_false hok] at HIS
            go_wp2_with fail
            refine HIS.out.mono ?_
            rintro e w3 ⟨rfl, hb3⟩
            have HB53 := HB52.out.below hb3 HB52.out.lt
            have HSN3 := HSN2.out.heap (hb3.block bm HSN2.out.lt)
            have HBEL3 := Lib.hid (HBEL2.out.trans (hb3.mono HBEL2.out.size))
            have hlook3 := HSN3.look nm hNM.out
            rw [HM2.out] at hlook3
            obtain ⟨e0, e1, k0, k1⟩ := facts2 HB53
            have HSN3 := Lib.hid HSN3
            clear hb3 HB53
            go_wp2_with fail
            go_ret
            have hd : decide (Pl.ClsOk cols) = false := decide_eq_false (cols_bad HC.out (.inl (fun h => hok h.1)))
            rw [hd]
            exact ⟨rfl, HBEL3.out⟩
        · have q3 : ¬ (k : Int) < (n : Int) := by omega
          have hd : Hid (decide (Pl.ClsOk cols) = true) := by
            have hh := HOK.out
            rw [List.take_of_length_le (by rw [HN.out]; omega)] at hh
            exact decide_eq_true ⟨⟨by rw [HN.out]; omega, by rw [HN.out]; omega⟩, hh⟩
          go_wp2_with fail
          go_ret
          exact ⟨by rw [hd.out]; rfl, hbel⟩
    · have q1 : ¬ (n : Int) < 1 := by omega
      have q2 : (4 : Int) < (n : Int) := by omega
      have d1 := decide_eq_false q1
      have d2 := decide_eq_true q2
      have hd : Hid (decide (Pl.ClsOk cols) = false) := decide_eq_false (fun h => by have := h.1.2; rw [HN.out] at this; omega)
      clear hA hs hb hn
      go_enter Tryz.func195, Tryz.ntmps195
      go_wp2_with fail
      go_ret
      exact ⟨by rw [hd.out]; rfl, Below.refl _ _⟩
  · have q1 : (n : Int) < 1 := by omega
    have d1 := decide_eq_true q1
    have hd : Hid (decide (Pl.ClsOk cols) = false) := decide_eq_false (fun h => by have := h.1.1; rw [HN.out] at this; omega)
    clear hA hs hb hn
    go_enter Tryz.func195, Tryz.ntmps195
    go_wp2_with fail
    go_ret
    exact ⟨by rw [hd.out]; rfl, Below.refl _ _⟩
end Go.Proofs.YtljmklohgpaopaaGreatDoor

namespace Go.Proofs.YtljmklohgpaopaaGreatDoor
open Go.RowKit

def lentV (g : Nat) (s : ByteArray) : Value := .slice (some ⟨g, 0, none⟩) s.size (s.size + 2)
def lc (gs : List Nat) (ss : List ByteArray) : List Value := List.zipWith lentV gs ss
theorem lc_snoc {gs : List Nat} {ss : List ByteArray} (h : gs.length = ss.length) (g : Nat) (s : ByteArray) : lc (gs ++ [g]) (ss ++ [s]) = lc gs ss ++ [lentV g s] := by
  simp [lc, List.zipWith_append h]
theorem lc_get {gs : List Nat} {ss : List ByteArray} {k g : Nat} {s : ByteArray} (hg : gs[k]? = some g) (hs : ss[k]? = some s) : (lc gs ss)[k]? = some (lentV g s) := by
  simp [lc, List.getElem?_zipWith, hg, hs]

/-- v is a row, of the call's own, of slices that 'lent' made. -/
structure Lent (w : World) (base : Nat) (v : Value) (gs : List Nat) (ss : List ByteArray) : Prop where
  len : gs.length = ss.length
  own : w.ownsRow base 25 1 v ss.length (lc gs ss)
  blk : ∀ (k g : Nat) (s : ByteArray), gs[k]? = some g → ss[k]? = some s → Blk w g 5 (lentRow s.data.toList)
  nodup : gs.Nodup
  far : ∀ g ∈ gs, base ≤ g ∧ v.ownBlock ≠ some g

theorem Lent.nil (w : World) (base : Nat) : Lent w base (.slice none 0 0) [] [] :=
  ⟨rfl, World.ownsRow_nil _ _ _ _, fun k g s h => by simp at h, List.nodup_nil, fun g h => by simp at h⟩
theorem Lent.lt {w : World} {base : Nat} {v : Value} {gs : List Nat} {ss : List ByteArray} (h : Lent w base v gs ss) : ∀ g ∈ gs, g < w.heap.size := by
  intro g hg
  obtain ⟨k, hk⟩ := List.mem_iff_getElem?.1 hg
  have hkl : k < ss.length := by
    rw [← h.len]
    rcases Nat.lt_or_ge k gs.length with h' | h'
    · exact h'
    · rw [List.getElem?_eq_none h'] at hk; cases hk
  exact (h.blk k g _ hk (List.getElem?_eq_getElem hkl)).lt
theorem Lent.below {w w' : World} {base : Nat} {v : Value} {gs : List Nat} {ss : List ByteArray} (h : Lent w base v gs ss) (hb : Below w.heap.size w w') : Lent w' base v gs ss :=
  ⟨h.len, own_below h.own hb, fun k g s h1 h2 => (h.blk k g s h1 h2).below hb (h.blk k g s h1 h2).lt, h.nodup, h.far⟩
/-- One more. -/
theorem Lent.snoc {w w3 : World} {base : Nat} {v v3 : Value} {gs : List Nat} {ss : List ByteArray} {s : ByteArray} {o : Obj} (h : Lent w base v gs ss) (hbase : base ≤ w.heap.size)
    (hown : w3.ownsRow base 25 1 v3 (ss.length + 1) (lc gs ss ++ [lentV w.heap.size s]))
    (hgrow : ((w.alloc (.cells (lentRow s.data.toList).toArray 5)).alloc o).grownBy w3 v.ownBlock)
    (hat : v3.ownBlock = v.ownBlock ∨ v3.ownBlock = some ((w.alloc (.cells (lentRow s.data.toList).toArray 5)).alloc o).heap.size) :
    Lent w3 base v3 (gs ++ [w.heap.size]) (ss ++ [s]) := by
  have hlt := h.lt
  have hvne : v.ownBlock ≠ some w.heap.size := fun e => by have := (h.own.lt _ e).2; omega
  have hw := ((Below.refl w.heap.size w).alloc (Nat.le_refl _) (.cells (lentRow s.data.toList).toArray 5)).alloc (by simp) o
  refine ⟨by simp [h.len], by rw [List.length_append, lc_snoc h.len]; exact hown, ?_, ?_, ?_⟩
  · intro k g u hg hu
    rw [List.getElem?_append] at hg hu
    rw [h.len] at hg
    split at hg
    · rename_i hk
      rw [if_pos hk] at hu
      have hb := h.blk k g u hg hu
      have hmem := List.mem_of_getElem? hg
      exact (hb.below hw (hlt g hmem)).grown hgrow (fun e => (h.far g hmem).2 e.symm)
    · rename_i hk
      rw [if_neg hk] at hu
      have h1 : k - ss.length = 0 := by
        rcases Nat.eq_zero_or_pos (k - ss.length) with h0 | h0
        · exact h0
        · rw [List.getElem?_eq_none (by simp; omega)] at hg; cases hg
      rw [h1] at hg hu
      simp only [List.getElem?_cons_zero, Option.some.injEq] at hg hu
      subst hg hu
      exact ((Blk.new w 5 (lentRow s.data.toList)).alloc o).grown hgrow (fun e => hvne e.symm)
  · rw [List.nodup_append]
    refine ⟨h.nodup, by simp, fun a ha b hb => ?_⟩
    simp at hb
    have := hlt a ha
    omega
  · intro g hg
    rcases List.mem_append.1 hg with hg | hg
    · refine ⟨(h.far g hg).1, ?_⟩
      rcases hat with e | e
      · rw [e]; exact (h.far g hg).2
      · rw [e]
        have := hlt g hg
        simp
        omega
    · simp at hg
      subst hg
      refine ⟨hbase, ?_⟩
      rcases hat with e | e
      · rw [e]; exact hvne
      · rw [e]
        simp
        omega

theorem Tryz.infoSlice : (Tryz.prog.info? 25).map (fun i => (i.zero, i.size, i.bytes)) = some (some (.slice none 0 0), 1, 24) := by kernel_rfl

theorem slice_room {n m : Nat} (h : n + m ≤ 8796093022208) : ∀ old, old < n + m → Builtin.nextslicecap (n + m) old * 24 ≤ 281474976710656 := by
  intro old ho
  have := nextslicecap_le54 ho
  omega

set_option maxHeartbeats 2000000 in
set_option maxRecDepth 100000 in
theorem lentAll_any (ss : List ByteArray) (A : Option Addr) (cap : Nat) (w : World) (hs : Src w A (sv ss)) (hm : ss.length ≤ 8796093022208) (hsz : ∀ s ∈ ss, s.size ≤ 140737488351232) :
    Calls Tryz.prog 7 #[.slice A ss.length cap] w fun e w' => ∃ v gs, e = .returned v ∧ Lent w' w.heap.size v gs ss ∧ Below w.heap.size w w' := by
  obtain ⟨i0, hi0, hz0, hz1, hz2⟩ := info_parts Tryz.infoSlice
  go_enter Tryz.func7, Tryz.ntmps7
  go_wp2_with fail
  go_loopw [3, 4, 5] (fun v i _ wr => ∃ j gs, j ≤ ss.length ∧ i = .int .i64 (j : Nat) ∧ Hid (Lent wr w.heap.size v gs (ss.take j)) ∧ Below w.heap.size w wr) (fun _ i _ _ => ss.length - (intOf i).toNat)
  case atStart => exact ⟨0, [], by omega, rfl, Lent.nil _ _, Below.refl _ _⟩
  case round =>
    obtain ⟨j, gs, hj, rfl, HL, hbel⟩ := hrel
    by_cases hjl : j < ss.length
    · obtain ⟨s, hx⟩ : ∃ s, ss[j] = s := ⟨_, rfl⟩
      have hxg : (sv ss)[j]? = some (.string s) := by simp [sv, List.getElem?_eq_getElem hjl, hx]
      have hssz := hsz s (by rw [← hx]; exact List.getElem_mem hjl)
      obtain ⟨b, off, rfl, hc⟩ := (hs.below hbel).at_ j _ hxg
      have hroom := Lib.hid (slice_room (n := j) (m := 1) (by omega))
      have h63 := Lib.hid (show j + 1 ≤ maxLen by simp only [maxLen]; omega)
      have htk : Hid (ss.take (j + 1) = ss.take j ++ [s]) := by rw [Hid, List.take_succ_eq_append_getElem hjl, hx]
      have htl : (ss.take j).length = j := by rw [List.length_take]; omega
      have hbase := hbel.size
      clear hx hxg
      go_wp2_with fail
      refine (lent_any s _ hssz).mono ?_
      rintro e w2 ⟨rfl, rfl⟩
      have hown2 := Lib.hid ((HL.out.own.alloc (.cells (lentRow s.data.toList).toArray 5)).alloc (.cells #[lentV wr.heap.size s] 25))
      have hsrc2 := Lib.hid (Src.of_blk (Blk.newAt (wr.alloc (.cells (lentRow s.data.toList).toArray 5)) 25 [lentV wr.heap.size s] (wr.heap.size + 1) (by simp)))
      have hbel2 := (hbel.alloc hbase (.cells (lentRow s.data.toList).toArray 5)).alloc (size_alloc_le hbase _) (.cells #[lentV wr.heap.size s] 25)
      have hbase2 := hbel2.size
      have hone : Hid (∀ u ∈ [lentV wr.heap.size s], u.oneCell' = true) := by
        intro u hu
        simp at hu
        subst hu
        rfl
      rw [htl] at hown2
      clear hbel
      go_wp2_with (at_builtin
                   refine wpList_append_src _ rfl (.tmp 17) (.tmp 19) 23 rfl w.heap.size 25 i0 (.slice none 0 0) 1 24 Tryz.underlying23 hi0 hz0 hz1 hz2 rfl (by decide) u3 j (lc gs (ss.take j)) rfl hown2.out (some ⟨wr.heap.size + 1, 0, none⟩) 1 1 [lentV wr.heap.size s] rfl rfl hsrc2.out hone.out h63.out hroom.out hbase2 ?_
                   intro v3 w3 hown3 hgrow3 hat3)
      refine ⟨⟨j + 1, gs ++ [wr.heap.size], by omega, by go_num, ?_, ?_⟩, by simp [intOf]; omega⟩
      · rw [htk.out]
        refine HL.out.snoc hbase ?_ hgrow3 hat3
        rw [htl]
        exact hown3
      · exact hbel2.grown hgrow3 hbase2 (fun g hg => (hown2.out.lt g hg).1)
    · have hjj : j = ss.length := by omega
      rw [show ss.take j = ss by rw [hjj, List.take_length]] at HL
      clear hjj
      go_wp2_with fail
      go_ret
      exact ⟨_, gs, rfl, HL.out, hbel⟩

theorem own_addr {w : World} {base : Nat} {e : TypeId} {size n : Nat} {v : Value} {xs : List Value} (h : w.ownsRow base e size v n xs) (hn : 0 < n) : ∃ g cap, v = .slice (some ⟨g, 0, none⟩) n cap ∧ base ≤ g ∧ n ≤ cap := by
  rcases h.2 with ⟨_, h0⟩ | ⟨g, cap, cur, hv, hb, _, hc, _⟩
  · omega
  · exact ⟨g, cap, hv, hb, hc⟩
theorem own_at {w : World} {base g cap : Nat} {e : TypeId} {size n : Nat} {xs : List Value} (h : w.ownsRow base e size (.slice (some ⟨g, 0, none⟩) n cap) n xs) (j : Nat) (u : Value) (hu : xs[j]? = some u) : w.cell? ⟨g, j, none⟩ = some u := by
  have := h.cells (g := g) rfl j u hu
  rwa [addr_add, Nat.zero_add] at this

set_option maxHeartbeats 2000000 in
set_option maxRecDepth 100000 in
theorem stayAll_any (ss : List ByteArray) (B : Option Addr) (base cap2 : Nat) (v : Value) (gs : List Nat) (w : World) (hl : Lent w base v gs ss) (hB : Src w B (sv ss)) (hBb : 0 < ss.length → ∀ b, B = some b → b.block < base) (hbase : base ≤ w.heap.size) (hm : ss.length ≤ 8796093022208) (hsz : ∀ s ∈ ss, s.size ≤ 140737488351232) :
    Calls Tryz.prog 9 #[v, .slice B ss.length cap2] w fun e w' => e = .returned (.bool true) ∧ Below base w w' ∧ ∀ k, k < w.heap.size → k ∉ gs → w'.heap[k]? = w.heap[k]? := by
  obtain ⟨A, cap, rfl, hcap, _, _⟩ := own_src hl.own
  have q0 : ((ss.length : Int) == ss.length) = true := by simp
  go_enter Tryz.func9, Tryz.ntmps9
  go_wp2_with fail
  go_loopw [5, 6] (fun o i wr => ∃ j, j ≤ ss.length ∧ o = .bool true ∧ i = .int .i64 (j : Nat) ∧ Hid (wr.ownsRow base 25 1 (.slice A ss.length cap) ss.length (lc gs ss)) ∧
    Hid (∀ (k g : Nat) (s : ByteArray), j ≤ k → gs[k]? = some g → ss[k]? = some s → Blk wr g 5 (lentRow s.data.toList)) ∧ Below base w wr ∧ Hid (∀ k, k < w.heap.size → k ∉ gs → wr.heap[k]? = w.heap[k]?)) (fun _ i _ => ss.length - (intOf i).toNat)
  case atStart => exact ⟨0, by omega, rfl, rfl, hl.own, fun k g s _ => hl.blk k g s, Below.refl _ _, fun k _ _ => rfl⟩
  case round =>
    obtain ⟨j, hj, rfl, rfl, HO, HK, hbel, HR⟩ := hrel
    by_cases hjl : j < ss.length
    · obtain ⟨s, hx⟩ : ∃ s, ss[j] = s := ⟨_, rfl⟩
      have hxg : ss[j]? = some s := by rw [List.getElem?_eq_getElem hjl, hx]
      obtain ⟨g, hgx⟩ : ∃ g, gs[j]? = some g := ⟨gs[j]'(by rw [hl.len]; exact hjl), List.getElem?_eq_getElem _⟩
      have hssz := hsz s (by rw [← hx]; exact List.getElem_mem hjl)
      obtain ⟨b, off, rfl, hcb0⟩ := hB.at_ j (.string s) (by simp [sv, hxg])
      have hbl : b < base := hBb (by omega) _ rfl
      have hcb := (hbel.cell (p := ⟨b, off + j, none⟩) hbl).trans hcb0
      obtain ⟨g0, cap', e0, hg0, _⟩ := own_addr HO.out (by omega)
      injection e0 with eA _ ec
      subst eA ec
      have hgetj : Hid ((lc gs ss)[j]? = some (.slice (some ⟨g, 0, none⟩) s.size (s.size + 2))) := lc_get hgx hxg
      have hca := own_at HO.out j _ hgetj.out
      have hblk := Lib.hid (HK.out j g s (Nat.le_refl _) hgx hxg)
      have hfar := hl.far g (List.mem_of_getElem? hgx)
      have s0 := Lib.hid (And.intro hca hcb)
      have hx0 : (0 : Int) ≤ (j : Int) := by omega
      have hx1 : (j : Int) < (ss.length : Int) := by omega
      have HGX := Lib.hid hgx
      clear hx hxg hgx hca hcb
      go_wp2_with fail
      go_region_held3 (fun W : World => W.cell? ⟨g0, j, none⟩ = some (.slice (some ⟨g, 0, none⟩) s.size (s.size + 2)) ∧ W.cell? ⟨b, off + j, none⟩ = some (.string s)) (first | exact s0.out | exact s1.out | fail) (first
        | (go_at_call 36; (with_reducible refine (stays_any g s _ hssz ?_).mono ?_); exact hblk.out; rintro e w2 ⟨rfl, hgrow', cs, hcs, hb2⟩
           have hgrow : wr.grownBy w2 (some g) := ⟨hgrow'.os, hgrow'.tape, hgrow'.output, hgrow'.size, hgrow'.block⟩
           have hown2 := HO.out.kept hgrow (.inr hfar.2)
           have hbel2 := hbel.grown hgrow (Nat.le_trans hbase hbel.size) (fun k hk => by cases hk; exact hfar.1)
           have s1 := Lib.hid (And.intro (own_at hown2 j _ hgetj.out) ((hbel2.cell (p := ⟨b, off + j, none⟩) hbl).trans hcb0)))
        | fail)
      go_wp2_with fail
      refine ⟨⟨j + 1, by omega, rfl, by go_num, hown2, ?_, hbel2, fun k hk hn => (hgrow.block k (Nat.lt_of_lt_of_le hk hbel.size) (fun e => hn (by injection e with e; subst e; exact List.mem_of_getElem? HGX.out))).trans (HR.out k hk hn)⟩, by simp [intOf]; omega⟩
      intro k g' s' hk hg' hs'
      refine (HK.out k g' s' (by omega) hg' hs').grown hgrow (fun e => ?_)
      injection e with e
      subst e
      have h1 : gs[k]? = gs[j]? := by rw [hg', HGX.out]
      have h2 := (List.getElem?_inj (by rw [hl.len]; exact hjl) hl.nodup).1 h1.symm
      omega
    · have hjj : j = ss.length := by omega
      subst hjj
      go_wp2_with fail
      go_ret
      exact ⟨rfl, hbel, HR.out⟩
end Go.Proofs.YtljmklohgpaopaaGreatDoor

namespace Go.Proofs.YtljmklohgpaopaaGreatDoor
open Go.RowKit

theorem Tryz.infoColumn : (Tryz.prog.info? 224).map (fun i => (i.zero, i.size, i.bytes)) = some (some (.agg #[.string ⟨#[]⟩, .int .i64 0]), 2, 24) := by kernel_rfl
theorem pCols_eq (l : List UInt8) : Pl.pCols l = if l.length < 1 then none else (Pl.pMany Pl.pCol (Pl.num (l.take 1)) (l.drop 1)).bind fun y => if Pl.ClsOk y.1 then some y else none := by
  unfold Pl.pCols
  rw [tk_eq]
  by_cases h : l.length < 1
  · rw [if_pos h, if_pos h]; rfl
  · rw [if_neg h, if_neg h]; rfl
theorem cols_end {l lr : List UInt8} {bad b1 br : Bool} {cols : List Pl.Cl} {M : Option (List Pl.Cl × List UInt8)} (hpe : Pl.pCols l = if l.length < 1 then none else M.bind fun y => if Pl.ClsOk y.1 then some y else none)
    (hb1 : (bad || decide (l.length < 1)) = b1) (h1 : br = (b1 || M.isNone)) (h2 : br = false → M = some (cols, lr)) :
    (br || !decide (Pl.ClsOk cols)) = (bad || (Pl.pCols l).isNone) ∧ ((br || !decide (Pl.ClsOk cols)) = false → Pl.pCols l = some (cols, lr)) := by
  rw [hpe]
  subst hb1
  by_cases c1 : l.length < 1
  · rw [if_pos c1, h1]
    simp [c1]
  · rw [if_neg c1]
    cases br with
    | true =>
      refine ⟨?_, fun h => by simp at h⟩
      simp [c1] at h1
      cases bad with
      | true => rfl
      | false =>
        simp at h1
        rw [h1]; rfl
    | false =>
      rw [h2 rfl] at h1 ⊢
      simp [c1] at h1
      subst h1
      by_cases c2 : Pl.ClsOk cols
      · simp [c2]
      · simp [c2]
theorem pCol_step {lr l2 : List UInt8} {nm : List UInt8} {bad2 : Bool} (hb : bad2 = (false || (Pl.pName lr).isNone)) (ho : ∀ y r, Pl.pName lr = some (y, r) → nm = y ∧ l2 = r) :
    (bad2 || decide (l2.length < 1)) = (false || (Pl.pCol lr).isNone) ∧ ((bad2 || decide (l2.length < 1)) = false → Pl.pCol lr = some (⟨nm, Pl.num (l2.take 1)⟩, l2.drop 1)) := by
  unfold Pl.pCol
  cases hp : Pl.pName lr with
  | none =>
    rw [hp] at hb
    subst hb
    simp
  | some y =>
    obtain ⟨y, r⟩ := y
    obtain ⟨rfl, rfl⟩ := ho y r hp
    rw [hp] at hb
    subst hb
    simp only [Option.bind_some]
    rw [tk_eq]
    by_cases c : l2.length < 1
    · simp [c]
    · simp [c]
def ClB (c : Pl.Cl) : Prop := c.name.length ≤ 255 ∧ c.ty < 256
def ColsPost (w : World) (g : Nat) (l : List UInt8) (bad : Bool) (e : Ending) (w' : World) : Prop :=
  ∃ v cols, e = .returned v ∧ w'.ownsRow w.heap.size 224 2 v cols.length (clcs cols) ∧ cols.length < 256 ∧ (∀ x ∈ cols, ClB x) ∧ Rd2 (Pl.pCols l) g bad cols w w'
set_option maxHeartbeats 2000000 in
theorem columns_any (g : Nat) (l : List UInt8) (bad : Bool) (w : World) (h : Rdr w g l bad) :
    Calls Tryz.prog 190 #[.pointer (some ⟨g, 0, none⟩)] w (ColsPost w g l bad) := by
  obtain ⟨i0, hi0, hz0, hz1, hz2⟩ := info_parts Tryz.infoColumn
  have hlt := h.lt
  have hn := Pl.num_take_lt l 1
  have hpe := pCols_eq l
  obtain ⟨N, hN⟩ : ∃ N, Pl.num (l.take 1) = N := ⟨_, rfl⟩
  obtain ⟨l1, hl1⟩ : ∃ l1, l.drop 1 = l1 := ⟨_, rfl⟩
  obtain ⟨b1, hb1⟩ : ∃ b1, (bad || decide (l.length < 1)) = b1 := ⟨_, rfl⟩
  have HNUM := Lib.hid (num_any g 1 l bad w h (by omega))
  rw [hN, hl1, hb1] at HNUM
  rw [hN, hl1] at hpe
  rw [hN] at hn
  have hn' : N < 256 := by simpa using hn
  have HPE := Lib.hid hpe
  have HB1 := Lib.hid hb1
  clear hpe hN hl1 h hn hb1
  go_enter Tryz.func190, Tryz.ntmps190
  go_wp2_with fail
  refine HNUM.out.mono ?_
  rintro e w2 ⟨rfl, hR, hg⟩
  have HO2 := Lib.hid (Only.of_grown hg)
  have HR2 := Lib.hid hR
  have hsz2 := HO2.out.size
  clear hg hR HNUM
  go_wp2_with fail
  go_loopw [3, 4] (fun v n wr => ∃ (r : Nat) (ps : List Pl.Cl) (lr : List UInt8) (br : Bool), r ≤ N ∧ n = .int .i64 ((N - r : Nat) : Int) ∧ Hid (ps.length = r) ∧ wr.ownsRow w.heap.size 224 2 v r (clcs ps) ∧ Hid (∀ x ∈ ps, ClB x) ∧
        Rdr wr g lr br ∧ Hid (Only (· = g) w wr) ∧ Hid (ManyAt Pl.pCol N l1 b1 r ps lr br)) (fun _ n _ => (intOf n).toNat)
  case atStart => exact ⟨0, [], _, _, Nat.zero_le _, rfl, rfl, World.ownsRow_nil _ _ _ _, by intro x hx; simp at hx, HR2.out, HO2.out, ManyAt.start _ _ _ _⟩
  case round =>
      obtain ⟨r, ps, lr, br, hr, rfl, HPL, hown, HVB, hRr, HO, HAT⟩ := hrel
      obtain ⟨q, hq⟩ : ∃ q, N - r = q := ⟨_, rfl⟩
      rw [hq]
      have hq' : r + q = N := by omega
      have HQ := Lib.hid hq'
      have hrN : r ≤ N := hr
      have hqb : q < 256 := by omega
      clear hq hq'
      obtain ⟨A, cap, hrc, hrm, hrB, hrb, hrA⟩ := hRr
      have c1 := hrB.cell 1
      simp only [List.getElem?_cons_succ, List.getElem?_cons_zero] at c1
      have hRr : Hid (Rdr wr g lr br) := ⟨A, cap, hrc, hrm, hrB, hrb, hrA⟩
      clear hrc hrm hrB hrb hrA
      by_cases hq0 : 0 < q
      · have hq1 : (0 : Int) < (q : Int) := by omega
        cases br with
        | false =>
          have HV := Lib.hid (name_any g lr false wr hRr.out)
          have hbase : w.heap.size ≤ wr.heap.size := HO.out.size
          have h63 := Lib.hid (show r + 1 ≤ maxLen by simp only [maxLen]; omega)
          have hroom := Lib.hid (slice_room (n := r) (m := 1) (by omega))
          go_wp2_with fail
          refine HV.out.mono ?_
          rintro e w3 ⟨nm, rfl, hnl, l2, bad2, hR3, hb2, hok2, ho3⟩
          obtain ⟨s1, s2⟩ := pCol_step hb2 hok2
          obtain ⟨ty, hty⟩ : ∃ ty, Pl.num (l2.take 1) = ty := ⟨_, rfl⟩
          have htl := Pl.num_take_lt l2 1
          rw [hty] at s2 htl
          have HN2 := num_any g 1 l2 bad2 w3 hR3 (by omega)
          rw [hty] at HN2
          have HN2 := Lib.hid HN2
          have HST := Lib.hid (HAT.out.step (by have := HQ.out; omega) s1 s2)
          have HXB : Hid (ClB ⟨nm, ty⟩) := ⟨hnl, by simpa using htl⟩
          have hown3 := Lib.hid (ho3.own hown (fun x hx e => by
            have := (hown.lt x hx).1
            omega))
          have HO3 := Lib.hid (HO.out.trans' ho3)
          have HS3 := Lib.hid ho3.size
          clear hR3 hb2 hok2 ho3 s1 s2 htl hty hown hnl HAT HV
          go_wp2_with fail
          refine HN2.out.mono ?_
          rintro e w4 ⟨rfl, hR4, hg4⟩
          have hbase2 : w.heap.size ≤ w4.heap.size := Nat.le_trans (Nat.le_trans hbase HS3.out) hg4.size
          have hbase3 := size_alloc_le hbase2 (.cells (clc ⟨nm, ty⟩).toArray 224)
          have ho4 := Only.of_grown hg4
          have hown2 := Lib.hid ((ho4.own hown3.out (fun x hx e => by
            have := (hown3.out.lt x hx).1
            omega)).alloc (.cells (clc ⟨nm, ty⟩).toArray 224))
          have hsrc2 := Lib.hid (Src.of_blk (Blk.new w4 224 (clc ⟨nm, ty⟩)))
          have HO4 := Lib.hid ((HO3.out.trans' ho4).alloc (.cells (clc ⟨nm, ty⟩).toArray 224))
          have hR5 := Lib.hid (hR4.below (w' := w4.alloc (.cells (clc ⟨nm, ty⟩).toArray 224)) ((Below.refl _ _).alloc (Nat.le_refl _) _))
          clear hg4 ho4 hR4 hown3
          go_wp2_with (at_builtin
                       refine wpList_append_src _ rfl (.tmp 21) (.tmp 26) 149 rfl w.heap.size 224 i0 (.agg #[.string ⟨#[]⟩, .int .i64 0]) 2 24 Tryz.underlying149 hi0 hz0 hz1 hz2 rfl (by decide) u3 r (clcs ps) rfl hown2.out (some ⟨w4.heap.size, 0, none⟩) 1 1 (clc ⟨nm, ty⟩) rfl rfl hsrc2.out (clc_one _) h63.out hroom.out hbase3 ?_
                       intro v3 w5 hown5 hgrow5 hat5)
          have hq2 := HQ.out
          refine ⟨⟨r + 1, ps ++ [(⟨nm, ty⟩ : Pl.Cl)], l2.drop 1, (bad2 || decide (l2.length < 1)), by omega, ?_, ?_, ?_, ?_, ?_, ?_, HST.out⟩, ?_⟩
          · rw [show ((N - (r + 1) : Nat) : Int) = (q : Int) - 1 by omega]
          · have := HPL.out
            rw [Hid, List.length_append, this]; rfl
          · rw [clcs_append, clcs_one]; exact hown5
          · intro y hy
            rcases List.mem_append.1 hy with hy | hy
            · exact HVB.out y hy
            · simp at hy; subst hy; exact HXB.out
          · refine hR5.out.only (Only.mono (G := fun k => u3.ownBlock = some k ∨ w4.heap.size ≤ k) ⟨hgrow5.os, hgrow5.tape, hgrow5.output, hgrow5.size, fun k hk hn => hgrow5.block k hk (fun e => hn e.symm)⟩ (fun x _ hx => .inl hx)) (fun y hy hn => ?_)
            rcases hn with hn | hn
            · have := (hown2.out.lt y hn).1
              omega
            · have := hR5.out.lt
              simp at this
              omega
          · exact HO4.out.grown hgrow5 (fun k hk => .inr (hown2.out.lt k hk).1)
          · simp [intOf]; omega
        | true =>
          have HD := Lib.hid (cols_end HPE.out HB1.out (HAT.out.done (fun e => by cases e)).1 (HAT.out.done (fun e => by cases e)).2)
          obtain ⟨Aa, capa, rfl, hnca, hsrca, howna⟩ := own_src hown
          have hAlt : ∀ p, Aa = some p → p.block < wr.heap.size := fun p hp => (hown.lt p.block (howna p hp)).2
          have HAC := Lib.hid (areColumns_any Aa capa ps wr hsrca hAlt HVB.out)
          rw [HPL.out] at HAC
          have HOWN := Lib.hid hown
          obtain ⟨okb, hokb⟩ : ∃ okb, decide (Pl.ClsOk ps) = okb := ⟨_, rfl⟩
          rw [hokb] at HAC
          rw [hokb] at HD
          clear HAT hokb hown hsrca howna hAlt
          go_wp2_with fail
          refine HAC.out.mono ?_
          rintro e w3 ⟨rfl, hb3⟩
          have HMU := Lib.hid (must_any g lr _ okb w3 (hRr.out.below hb3))
          have HO3 := Lib.hid (HO.out.below hb3)
          have HOWN3 := Lib.hid (own_below HOWN.out hb3)
          clear hb3 HAC
          go_wp2_with fail
          refine HMU.out.mono ?_
          rintro e w4 ⟨rfl, hR4, ho4⟩
          have HR4 := Lib.hid hR4
          have HO4 := Lib.hid (HO3.out.trans' ho4)
          have HOWN4 := Lib.hid (ho4.own HOWN3.out (fun x hx e => by
            have := (HOWN3.out.lt x hx).1
            omega))
          clear hR4 ho4 HMU
          go_wp2_with fail
          go_ret
          have hpl := HPL.out
          subst hpl
          exact ⟨_, ps, rfl, HOWN4.out, by omega, HVB.out, lr, _, HR4.out, HD.out.1, HD.out.2, HO4.out⟩
      · have hq1 : ¬ (0 : Int) < (q : Int) := by omega
        have hee : br = false → N ≤ r := fun e => by have := HQ.out; omega
        have HD := Lib.hid (cols_end HPE.out HB1.out (HAT.out.done hee).1 (HAT.out.done hee).2)
        obtain ⟨Aa, capa, rfl, hnca, hsrca, howna⟩ := own_src hown
        have hAlt : ∀ p, Aa = some p → p.block < wr.heap.size := fun p hp => (hown.lt p.block (howna p hp)).2
        have HAC := Lib.hid (areColumns_any Aa capa ps wr hsrca hAlt HVB.out)
        rw [HPL.out] at HAC
        have HOWN := Lib.hid hown
        obtain ⟨okb, hokb⟩ : ∃ okb, decide (Pl.ClsOk ps) = okb := ⟨_, rfl⟩
        rw [hokb] at HAC
        rw [hokb] at HD
        clear HAT hokb hown hsrca howna hAlt hee
        go_wp2_with fail
        refine HAC.out.mono ?_
        rintro e w3 ⟨rfl, hb3⟩
        have HMU := Lib.hid (must_any g lr _ okb w3 (hRr.out.below hb3))
        have HO3 := Lib.hid (HO.out.below hb3)
        have HOWN3 := Lib.hid (own_below HOWN.out hb3)
        clear hb3 HAC
        go_wp2_with fail
        refine HMU.out.mono ?_
        rintro e w4 ⟨rfl, hR4, ho4⟩
        have HR4 := Lib.hid hR4
        have HO4 := Lib.hid (HO3.out.trans' ho4)
        have HOWN4 := Lib.hid (ho4.own HOWN3.out (fun x hx e => by
          have := (HOWN3.out.lt x hx).1
          omega))
        clear hR4 ho4 HMU
        go_wp2_with fail
        go_ret
        have hpl := HPL.out
        subst hpl
        exact ⟨_, ps, rfl, HOWN4.out, by omega, HVB.out, lr, _, HR4.out, HD.out.1, HD.out.2, HO4.out⟩
end Go.Proofs.YtljmklohgpaopaaGreatDoor
