/- The walk of the opening closure. The walk of the log's Open. The walks of package plain's calls of a log. -/
import Derived.Test.YtljmklohgpaopaaDoorMgLogged9
import Derived.Test.YtljmklohgpaopaaDoorMgLogged8
set_option linter.unusedVariables false
set_option linter.unusedSimpArgs false

namespace Go.Proofs.YtljmklohgpaopaaDoor
open Go.RowKit

namespace Pl
/-- The epoch that the first slots tell. -/
def eps (d : Dk) (first : Nat) : Nat → Nat
  | 0 => 0
  | k + 1 => max (eps d first k) (slotOf (d.look (first + k)))
theorem slotOf_lt (o : Option (List UInt8)) : slotOf o < 18446744073709551616 := by
  unfold slotOf
  split
  · next r => exact num_take_lt r 8
  · omega
theorem eps_lt (d : Dk) (first : Nat) : ∀ k, eps d first k < 18446744073709551616 := by
  intro k
  induction k with
  | zero => show 0 < _; omega
  | succ k ih =>
    have := slotOf_lt (d.look (first + k))
    show max _ _ < _
    omega
theorem slot_no {s : List UInt8} (h : s.headD 0 ≠ 72) : slotOf (some s) = 0 := by
  unfold slotOf
  split
  · next r he => injection he with he; subst he; exact absurd rfl h
  · rfl
theorem slot_yes {s : List UInt8} (h : s.headD 0 = 72) : slotOf (some s) = num ((s.drop 1).take 8) := by
  match s, h with
  | x :: r, h =>
    have : x = 72 := h
    subst this
    rfl
  | [], h => exact absurd h (by decide)
theorem openLog_dead {d : Dk} (first n : Nat) (h : d.life = 0) : openLog d first n = (d, .inl 3) := by unfold openLog; rw [if_pos h]
theorem openLog_zero {d : Dk} {first n : Nat} (h : d.life ≠ 0) (he : eps d first 2 = 0) : openLog d first n = (d, .inl 2) := by
  unfold openLog
  rw [if_neg h]
  have : max (slotOf (d.look first)) (slotOf (d.look (first + 1))) = 0 := by
    have e : eps d first 2 = max (max 0 (slotOf (d.look (first + 0)))) (slotOf (d.look (first + 1))) := rfl
    rw [he] at e
    simp only [Nat.add_zero] at e
    omega
  simp only [this, if_pos]
theorem openLog_runs {d : Dk} {first n : Nat} (h : d.life ≠ 0) {ep : Nat} (hep : eps d first 2 = ep) (he : ep ≠ 0) {r : List (List UInt8) × Nat} (hr : scan ep ((List.range (n - 2)).map (fun i => d.look (first + 2 + i))) 0 [] [] 0 = r) {res : Dk × Bool} (hres : d.run (cleaned (stale d ep first r.2 (n - 2))) = res) :
    openLog d first n = (res.1, if res.2 then .inr ⟨first, n - 2, ep, r.2, r.1, false⟩ else .inl 3) := by
  subst hr hres
  unfold openLog
  rw [if_neg h]
  have : max (slotOf (d.look first)) (slotOf (d.look (first + 1))) = ep := by
    have e : eps d first 2 = max (max 0 (slotOf (d.look (first + 0)))) (slotOf (d.look (first + 1))) := rfl
    rw [hep] at e
    simp only [Nat.add_zero] at e
    omega
  simp only [this, if_neg he]
  rcases d.run _ with ⟨d', ok⟩
  cases ok <;> rfl
end Pl

/-- A log that is opened, before anything is read. -/
def lg0 (first n ep : Nat) : Pl.Lg := ⟨first, n - 2, ep, 0, [], false⟩
def Open1Post (gl g : Nat) (v : Value) (d : Pl.Dk) (first n : Nat) (w : World) (e : Ending) (w' : World) : Prop :=
  ∃ (k : Nat) (va' : Value) (vs' : List Value) (rd' : Int) (l' : Pl.Lg), EndK k e ∧ LogSt w' gl g v va' vs' (Pl.openLog d first n).1 rd' l' ∧ (Pl.openLog d first n).2 = (if k = 0 then .inr l' else .inl k) ∧ Sep w (.slice none 0 0) va' ∧ Only (lFa gl g v (.slice none 0 0)) w w'

theorem Open1Post.no {gl g k : Nat} {v va' : Value} {vs' : List Value} {d d' : Pl.Dk} {rd' : Int} {l' : Pl.Lg} {first n : Nat} {w w' : World} (hk : k = 3 ∨ k = 2) (h : LogSt w' gl g v va' vs' d' rd' l') (ho : Pl.openLog d first n = (d', .inl k)) (hs : Sep w (.slice none 0 0) va') (hon : Only (lFa gl g v (.slice none 0 0)) w w') : Open1Post gl g v d first n w (died k) w' := by
  refine ⟨k, va', vs', rd', l', ?_, by rw [ho]; exact h, ?_, hs, hon⟩
  · rcases hk with rfl | rfl
    · exact .inr (.inl ⟨rfl, rfl⟩)
    · exact .inr (.inr ⟨rfl, rfl⟩)
  · rw [ho, if_neg (by omega)]
theorem Open1Post.yes {gl g : Nat} {v va' : Value} {vs' : List Value} {d d' : Pl.Dk} {rd' : Int} {l' : Pl.Lg} {first n : Nat} {w w' : World} (h : LogSt w' gl g v va' vs' d' rd' l') (ho : Pl.openLog d first n = (d', .inr l')) (hs : Sep w (.slice none 0 0) va') (hon : Only (lFa gl g v (.slice none 0 0)) w w') : Open1Post gl g v d first n w (.returned (.tuple #[])) w' :=
  ⟨0, va', vs', rd', l', .inl ⟨rfl, rfl⟩, by rw [ho]; exact h, by rw [ho, if_pos rfl], hs, hon⟩
/-- The epoch is laid. -/
theorem LogSt.epoch {w : World} {gl g : Nat} {v va : Value} {vs : List Value} {d : Pl.Dk} {rd : Int} {l : Pl.Lg} (h : LogSt w gl g v va vs d rd l) (m : Nat) (mi : Int) (hmi : mi = ((m : Nat) : Int)) (hm : m < 18446744073709551616) :
    LogSt (w.setCell ⟨gl, 3, none⟩ (.int .u64 mi)) gl g v va vs d rd { l with epoch := m } ∧ Only (lFa gl g v va) w (w.setCell ⟨gl, 3, none⟩ (.int .u64 mi)) := by
  subst hmi
  have ho : Only (· = gl) w (w.setCell ⟨gl, 3, none⟩ (.int .u64 ((m : Nat) : Int))) := (Only.refl (· = gl) w).setCell (p := ⟨gl, 3, none⟩) (.inl rfl) _
  have hk : Kinds (· = gl) w [125] := by
    rintro x rfl
    exact ⟨_, by simp, h.cells.blk.typ⟩
  exact ⟨⟨h.disk.onlyT ho hk (by decide) (by decide), ⟨h.cells.blk.set_ 3 _, h.cells.small.1, h.cells.small.2.1, hm⟩, h.rows.only ho hk (by decide) (by decide)⟩, ho.mono (fun _ _ e => .inl (.inr e))⟩
theorem lFa_kinds_off {w : World} {gl g b : Nat} {v va : Value} {vs : List Value} {d : Pl.Dk} {rd : Int} {l : Pl.Lg} {t : TypeId} {cs : List Value} (h : LogSt w gl g v va vs d rd l) (hb : Blk w b t cs) (ht : t ∉ lTypes) : ¬ lFa gl g v va b := fun hk => by
  obtain ⟨t', h1, h2⟩ := h.kinds b hk
  exact ht (hb.typ.uniq h2 ▸ h1)

set_option maxHeartbeats 4000000 in
set_option maxRecDepth 100000 in
theorem open1_any (gl g bD bF bL first n : Nat) (v : Value) (d : Pl.Dk) (rd : Int) (w : World) (h : LogSt w gl g v (.slice none 0 0) [] d rd (lg0 first n 0)) (hD : Blk w bD 37 [.pointer (some ⟨g, 0, none⟩)]) (hF : Blk w bF 3 [.int .i64 (first : Nat)]) (hL : Blk w bL 39 [.pointer (some ⟨gl, 0, none⟩)])
    (hfit : first + n ≤ d.secs.length) (hn : 4 ≤ n) :
    Calls Tryd.prog 60 #[.pointer (some ⟨bD, 0, none⟩), .pointer (some ⟨bF, 0, none⟩), .pointer (some ⟨bL, 0, none⟩)] w (Open1Post gl g v d first n w) := by
  have hm := h.disk.most
  have H := Lib.hid h
  have HD := Lib.hid hD
  have HF := Lib.hid hF
  have HL := Lib.hid hL
  have offD := Lib.hid (lFa_kinds_off h hD (by decide))
  have offF := Lib.hid (lFa_kinds_off h hF (by decide))
  have offL := Lib.hid (lFa_kinds_off h hL (by decide))
  have HDD := Lib.hid (dead_any g v d rd w h.disk)
  have cD := hD.cell 0
  have cF := hF.cell 0
  have cL := hL.cell 0
  simp only [List.getElem?_cons_zero] at cD cF cL
  clear h hD hF hL
  by_cases hlife : d.life = 0
  · have HLF := Lib.hid hlife
    have hdl : Hid ((d.life == 0) = true) := by rw [Hid, hlife]; rfl
    clear hlife
    go_enter Tryd.func60, Tryd.ntmps60
    go_wp2_with fail
    refine HDD.out.mono ?_
    rintro e w' ⟨rfl, rfl⟩
    rw [hdl.out]
    go_wp2_with fail
    exact ⟨rfl, Open1Post.no (.inl rfl) H.out (Pl.openLog_dead first n HLF.out) (Sep.refl _ _) (Only.refl _ _)⟩
  · have HLF := Lib.hid hlife
    have hdl : Hid ((d.life == 0) = false) := by rw [Hid]; simp [hlife]
    clear hlife
    go_enter Tryd.func60, Tryd.ntmps60
    go_wp2_with fail
    refine HDD.out.mono ?_
    rintro e w' ⟨rfl, rfl⟩
    rw [hdl.out]
    go_wp2_with fail
    go_loopw [11] (fun i W => ∃ (k : Nat) (rdk : Int), k ≤ 2 ∧ i = .int .i64 (k : Int) ∧ Hid (LogSt W gl g v (.slice none 0 0) [] d rdk (lg0 first n (Pl.eps d first k))) ∧ Hid (Only (lFa gl g v (.slice none 0 0)) w W)) (fun i _ => 2 - (intOf i).toNat)
    case atStart => exact ⟨0, rd, by omega, rfl, H.out, Only.refl _ _⟩
    case round =>
      obtain ⟨k, rdk, hk, rfl, HLS, HO⟩ := hrel
      have cD2 := (HO.out.blk HD.out offD.out).cell 0
      have cF2 := (HO.out.blk HF.out offF.out).cell 0
      have cL2 := (HO.out.blk HL.out offL.out).cell 0
      simp only [List.getElem?_cons_zero] at cD2 cF2 cL2
      clear cD cF cL
      by_cases hk2 : k < 2
      · obtain ⟨p, hp⟩ : ∃ p : Nat, (first : Int) + k = p := ⟨first + k, by omega⟩
        have HP : Hid (first + k = p) := by rw [Hid]; omega
        have hin : p < d.secs.length := by have := HP.out; omega
        have heq : Pl.eps d first (k + 1) = max (Pl.eps d first k) (Pl.slotOf (d.look p)) := by rw [← HP.out]; rfl
        have HEQ := Lib.hid heq
        clear heq
        cases hlo : d.look p with
        | none =>
          have HLO := Lib.hid hlo
          have HE2 : Hid (Pl.eps d first (k + 1) = Pl.eps d first k) := by rw [Hid, HEQ.out, hlo]; exact Nat.max_eq_left (Nat.zero_le _)
          clear hlo
          go_wp2_with fail
          refine (wread_none g v d rdk p _ HLS.out.disk hin HLF.out _ rfl HLO.out).mono ?_
          rintro e w2 ⟨rfl, ⟨rd2, hd2, _⟩, ho2⟩
          have HLS2 := Lib.hid (HLS.out.read hd2 ho2)
          have HO2 := Lib.hid (HO.out.trans' (ho2.mono (fun x _ hx => (.inl (.inl (.inl hx)) : lFa gl g v (.slice none 0 0) x))))
          clear hd2 ho2
          go_wp2_with fail
          refine ⟨⟨k + 1, rd2, by omega, by go_num, ?_, HO2.out⟩, by simp [intOf]; omega⟩
          rw [HE2.out]
          exact HLS2.out
        | some s =>
          have HLO := Lib.hid hlo
          clear hlo
          have hs256 := look_sized HLS.out.disk HLO.out
          have hz := tstr_size s
          obtain ⟨c, hc⟩ : ∃ c, s.headD 0 = c := ⟨_, rfl⟩
          have hd : ∀ (h' : 0 < (tstr s).size), (tstr s)[0] = c := by
            intro h'
            match s, hs256 with
            | x :: r, _ => exact hc
          go_wp2_with fail
          refine (wread_some g v d rdk p _ HLS.out.disk hin HLF.out s _ rfl HLO.out).mono ?_
          rintro e w2 ⟨rfl, ⟨rd2, hd2, _⟩, ho2⟩
          have HLS2 := Lib.hid (HLS.out.read hd2 ho2)
          have HO2 := Lib.hid (HO.out.trans' (ho2.mono (fun x _ hx => (.inl (.inl (.inl hx)) : lFa gl g v (.slice none 0 0) x))))
          clear hd2 ho2
          by_cases hcc : c = 72
          · subst hcc
            have q0 : ((72 : UInt8).toNat : Int) = 72 := by decide
            have m1 := fun w => run_str_mid w s 1 9 1 8 rfl rfl (by omega)
            have G1 := getS_any ((s.drop 1).take 8)
            have hl1 : ((s.drop 1).take 8).length ≤ 8 := List.length_take_le _ _
            obtain ⟨x, hx⟩ : ∃ x, Pl.num ((s.drop 1).take 8) = x := ⟨_, rfl⟩
            obtain ⟨z1, hz1⟩ : ∃ z, tstr ((s.drop 1).take 8) = z := ⟨_, rfl⟩
            obtain ⟨ep, hep⟩ : ∃ ep, Pl.eps d first k = ep := ⟨_, rfl⟩
            have HE2 : Hid (Pl.eps d first (k + 1) = max ep x) := by rw [Hid, HEQ.out, HLO.out, Pl.slot_yes hc, hep, hx]
            have HE3 := Lib.hid (HE2.out ▸ Pl.eps_lt d first (k + 1))
            have HLS3 : Hid (LogSt w2 gl g v (.slice none 0 0) [] d rd2 (lg0 first n ep)) := by rw [Hid, ← hep]; exact HLS2.out
            rw [hz1] at m1 G1
            rw [hx] at G1
            have HG := Lib.hid (fun W => G1 W hl1)
            have c3 := (HO2.out.blk HL.out offL.out).cell 0
            have c4 : w2.cell? ⟨gl, 3, none⟩ = some (.int .u64 (ep : Nat)) := HLS3.out.cells.blk.cell 3
            have f4 := HLS3.out.cells.blk.frozen 3
            obtain ⟨W4, hW4⟩ : ∃ W4, w2.setCell ⟨gl, 3, none⟩ (.int .u64 (if ep < x then (x : Int) else (ep : Int))) = W4 := ⟨_, rfl⟩
            have hE4 := HLS3.out.epoch (max ep x) (if ep < x then (x : Int) else (ep : Int)) (by split <;> omega) HE3.out
            rw [hW4] at hE4
            have HE4 := Lib.hid hE4
            simp only [List.getElem?_cons_zero] at c3
            have hS1 := Lib.hid c3
            have hne : bL ≠ gl := (HO2.out.blk HL.out offL.out).ne HLS3.out.cells.blk (by decide)
            have cS2 : Hid (W4.cell? ⟨bL, 0, none⟩ = some (.pointer (some ⟨gl, 0, none⟩))) := ((HO2.out.trans' HE4.out.2).blk HL.out offL.out).cell 0
            have HW4 := Lib.hid hW4
            clear hl1 hx hz1 hep G1 hE4 hne hW4
            go_wp2_with fail
            refine wp_region_held_drew (S := fun W : World => W.cell? ⟨bL, 0, none⟩ = some (.pointer (some ⟨gl, 0, none⟩))) (by kernel_rfl) hS1.out (fun hHeld => ?_)
            refine wpAnyH_take (i := 0) (oi := _) (v := ?_) rfl (by kernel_rfl) (by kernel_rfl) (by kernel_rfl) (fun _ _ _ h => h) (Or.inl ⟨by rfl, ?_⟩) (by assumption) ?_
            rotate_left
            · intro W hSw
              (try dsimp only at hSw)
              go_simp
              rfl
            (try simp only [Act.put, List.getElem_toArray, List.getElem_cons_succ, List.getElem_cons_zero, List.setIfInBounds_toArray, List.set_cons_zero, List.set_cons_succ])
            refine wpAnyH_take (i := 1) (oi := _) (v := ?_) rfl (by kernel_rfl) (by kernel_rfl) (by kernel_rfl) (fun _ _ _ h => h) (Or.inl ⟨by rfl, ?_⟩) (by assumption) ?_
            rotate_left
            · intro W hSw
              (try dsimp only at hSw)
              go_simp
              rfl
            (try simp only [Act.put, List.getElem_toArray, List.getElem_cons_succ, List.getElem_cons_zero, List.setIfInBounds_toArray, List.set_cons_zero, List.set_cons_succ])
            refine wpAnyH_take (i := 2) (oi := _) (v := ?_) rfl (by kernel_rfl) (by kernel_rfl) (by kernel_rfl) (fun _ _ _ h => h) (Or.inl ⟨by rfl, ?_⟩) (by assumption) ?_
            rotate_left
            · intro W hSw
              (try dsimp only at hSw)
              go_simp
              rfl
            (try simp only [Act.put, List.getElem_toArray, List.getElem_cons_succ, List.getElem_cons_zero, List.setIfInBounds_toArray, List.set_cons_zero, List.set_cons_succ])
            refine wpAnyH_take (i := 3) (oi := _) (v := ?_) rfl (by kernel_rfl) (by kernel_rfl) (by kernel_rfl) (fun _ _ _ h => h) (Or.inl ⟨by rfl, ?_⟩) (by assumption) ?_
            rotate_left
            · intro W hSw
              (try dsimp only at hSw)
              go_simp
              rfl
            (try simp only [Act.put, List.getElem_toArray, List.getElem_cons_succ, List.getElem_cons_zero, List.setIfInBounds_toArray, List.set_cons_zero, List.set_cons_succ])
            refine wpAnyH_take (i := 5) (oi := _) (v := ?_) rfl (by kernel_rfl) (by kernel_rfl) (by kernel_rfl) (fun _ _ _ h => h) (Or.inl ⟨by rfl, ?_⟩) (by assumption) ?_
            rotate_left
            · intro W hSw
              (try dsimp only at hSw)
              go_simp
              rfl
            (try simp only [Act.put, List.getElem_toArray, List.getElem_cons_succ, List.getElem_cons_zero, List.setIfInBounds_toArray, List.set_cons_zero, List.set_cons_succ])
            refine wpAnyH_take (i := 6) (oi := _) (v := ?_) rfl (by kernel_rfl) (by kernel_rfl) (by kernel_rfl) (fun _ _ _ h => h) (Or.inl ⟨by rfl, ?_⟩) (by assumption) ?_
            rotate_left
            · intro W hSw
              (try dsimp only at hSw)
              go_simp
              rfl
            (try simp only [Act.put, List.getElem_toArray, List.getElem_cons_succ, List.getElem_cons_zero, List.setIfInBounds_toArray, List.set_cons_zero, List.set_cons_succ])
            refine wpAnyH_ready (rs := [4, 7]) (by kernel_rfl) (by simp) ?_
            refine AllReadyH.cons (o := _) rfl (fun K hK => ?_) ?_
            · go_simp
              refine hK.out _ _ hS1.out (fun _ => ?_)
              clear hK K
              (try simp only [Act.put, List.getElem_toArray, List.getElem_cons_succ, List.getElem_cons_zero, List.setIfInBounds_toArray, List.set_cons_zero, List.set_cons_succ])
              refine wpAnyH_ready (rs := [7]) (by kernel_rfl) (by simp) ?_
              refine AllReadyH.cons (o := _) rfl (fun K hK => ?_) AllReadyH.nil
              go_simp
              refine (HG.out _).mono ?_
              rintro e w' ⟨rfl, rfl⟩
              go_wp2_with fail
              refine hK.out _ _ hS1.out (fun _ => ?_)
              clear hK K
              (try simp only [Act.put, List.getElem_toArray, List.getElem_cons_succ, List.getElem_cons_zero, List.setIfInBounds_toArray, List.set_cons_zero, List.set_cons_succ])
              refine wpAnyH_ready (rs := [8]) (by kernel_rfl) (by simp) ?_
              refine AllReadyH.cons (o := _) rfl (fun K hK => ?_) AllReadyH.nil
              go_simp
              refine hK.out _ _ hS1.out (fun _ => ?_)
              clear hK K
              (try simp only [Act.put, List.getElem_toArray, List.getElem_cons_succ, List.getElem_cons_zero, List.setIfInBounds_toArray, List.set_cons_zero, List.set_cons_succ])
              refine wpAnyH_take (i := 9) (oi := _) (v := ?_) rfl (by kernel_rfl) (by kernel_rfl) (by kernel_rfl) (fun _ _ _ h => h) (Or.inl ⟨by rfl, ?_⟩) (by assumption) ?_
              rotate_left
              · intro W hSw
                (try dsimp only at hSw)
                go_simp
                rfl
              (try simp only [Act.put, List.getElem_toArray, List.getElem_cons_succ, List.getElem_cons_zero, List.setIfInBounds_toArray, List.set_cons_zero, List.set_cons_succ])
              refine wpAnyH_take (i := 10) (oi := _) (v := ?_) rfl (by kernel_rfl) (by kernel_rfl) (by kernel_rfl) (fun _ _ _ h => h) (Or.inl ⟨by rfl, ?_⟩) (by assumption) ?_
              rotate_left
              · intro W hSw
                (try dsimp only at hSw)
                go_simp
                rfl
              (try simp only [Act.put, List.getElem_toArray, List.getElem_cons_succ, List.getElem_cons_zero, List.setIfInBounds_toArray, List.set_cons_zero, List.set_cons_succ])
              refine wpAnyH_ready (rs := [11]) (by kernel_rfl) (by simp) ?_
              refine AllReadyH.cons (o := _) rfl (fun K hK => ?_) AllReadyH.nil
              go_simp
              rw [HW4.out]
              refine hK.out _ _ cS2.out (fun _ => ?_)
              refine wpAnyH_done (by kernel_rfl) ?_ _
              clear hK K
              go_wp2_with fail
              refine ⟨⟨k + 1, rd2, by omega, by go_num, ?_, (HO2.out.trans' HE4.out.2).below (Below.refl _ _).drew⟩, by simp [intOf]; omega⟩
              rw [HE2.out]
              exact HE4.out.1.below (Below.refl _ _).drew
            refine AllReadyH.cons (o := _) rfl (fun K hK => ?_) AllReadyH.nil
            go_simp
            refine (HG.out _).mono ?_
            rintro e w' ⟨rfl, rfl⟩
            go_wp2_with fail
            refine hK.out _ _ hS1.out (fun _ => ?_)
            clear hK K
            (try simp only [Act.put, List.getElem_toArray, List.getElem_cons_succ, List.getElem_cons_zero, List.setIfInBounds_toArray, List.set_cons_zero, List.set_cons_succ])
            refine wpAnyH_ready (rs := [4]) (by kernel_rfl) (by simp) ?_
            refine AllReadyH.cons (o := _) rfl (fun K hK => ?_) AllReadyH.nil
            go_simp
            refine hK.out _ _ hS1.out (fun _ => ?_)
            clear hK K
            (try simp only [Act.put, List.getElem_toArray, List.getElem_cons_succ, List.getElem_cons_zero, List.setIfInBounds_toArray, List.set_cons_zero, List.set_cons_succ])
            refine wpAnyH_ready (rs := [8]) (by kernel_rfl) (by simp) ?_
            refine AllReadyH.cons (o := _) rfl (fun K hK => ?_) AllReadyH.nil
            go_simp
            refine hK.out _ _ hS1.out (fun _ => ?_)
            clear hK K
            (try simp only [Act.put, List.getElem_toArray, List.getElem_cons_succ, List.getElem_cons_zero, List.setIfInBounds_toArray, List.set_cons_zero, List.set_cons_succ])
            refine wpAnyH_take (i := 9) (oi := _) (v := ?_) rfl (by kernel_rfl) (by kernel_rfl) (by kernel_rfl) (fun _ _ _ h => h) (Or.inl ⟨by rfl, ?_⟩) (by assumption) ?_
            rotate_left
            · intro W hSw
              (try dsimp only at hSw)
              go_simp
              rfl
            (try simp only [Act.put, List.getElem_toArray, List.getElem_cons_succ, List.getElem_cons_zero, List.setIfInBounds_toArray, List.set_cons_zero, List.set_cons_succ])
            refine wpAnyH_take (i := 10) (oi := _) (v := ?_) rfl (by kernel_rfl) (by kernel_rfl) (by kernel_rfl) (fun _ _ _ h => h) (Or.inl ⟨by rfl, ?_⟩) (by assumption) ?_
            rotate_left
            · intro W hSw
              (try dsimp only at hSw)
              go_simp
              rfl
            (try simp only [Act.put, List.getElem_toArray, List.getElem_cons_succ, List.getElem_cons_zero, List.setIfInBounds_toArray, List.set_cons_zero, List.set_cons_succ])
            refine wpAnyH_ready (rs := [11]) (by kernel_rfl) (by simp) ?_
            refine AllReadyH.cons (o := _) rfl (fun K hK => ?_) AllReadyH.nil
            go_simp
            rw [HW4.out]
            refine hK.out _ _ cS2.out (fun _ => ?_)
            refine wpAnyH_done (by kernel_rfl) ?_ _
            clear hK K
            go_wp2_with fail
            refine ⟨⟨k + 1, rd2, by omega, by go_num, ?_, (HO2.out.trans' HE4.out.2).below (Below.refl _ _).drew⟩, by simp [intOf]; omega⟩
            rw [HE2.out]
            exact HE4.out.1.below (Below.refl _ _).drew
          · have HE2 : Hid (Pl.eps d first (k + 1) = Pl.eps d first k) := by rw [Hid, HEQ.out, HLO.out, Pl.slot_no (by rw [hc]; exact hcc)]; exact Nat.max_eq_left (Nat.zero_le _)
            have q0 : ((c.toNat : Int) == 72) = false := by
              have : c.toNat ≠ 72 := fun h => hcc (UInt8.toNat_inj.1 h)
              simp
              omega
            go_wp2_with fail
            refine ⟨⟨k + 1, rd2, by omega, by go_num, ?_, HO2.out⟩, by simp [intOf]; omega⟩
            rw [HE2.out]
            exact HLS2.out
      · obtain rfl : k = 2 := by omega
        obtain ⟨ep, hep⟩ : ∃ ep, Pl.eps d first 2 = ep := ⟨_, rfl⟩
        rw [hep] at HLS
        have HEP := Lib.hid hep
        have hepl : ep < 18446744073709551616 := by rw [← hep]; exact Pl.eps_lt _ _ _
        obtain ⟨_, _, _, a3, _⟩ := facts7 HLS.out.cells.blk
        have a3' : wr.cell? ⟨gl, 3, none⟩ = some (.int .u64 (ep : Nat)) := a3
        clear hep a3
        by_cases he0 : ep = 0
        · subst he0
          go_wp2_with fail
          exact ⟨rfl, Open1Post.no (.inr rfl) HLS.out (Pl.openLog_zero HLF.out HEP.out) (Sep.refl _ _) HO.out⟩
        · have q3 : ((ep : Int) == 0) = false := by simp; omega
          have HE0 := Lib.hid he0
          clear he0
          go_wp2_with fail
          refine (scan_any gl g v _ [] d rdk (lg0 first n ep) _ HLS.out HLF.out (by show first + 2 + (n - 2) ≤ _; omega) (by show 0 ≤ 5000; omega)).mono ?_
          rintro e w2 ⟨va2, vs2, rd2, rfl, hst2, hsep2, ho2⟩
          have cL3 := ((HO.out.trans' ho2).blk HL.out offL.out).cell 0
          simp only [List.getElem?_cons_zero] at cL3
          obtain ⟨res, hres⟩ : ∃ res, Pl.scan ep (reads d (lg0 first n ep)) 0 [] [] 0 = res := ⟨_, rfl⟩
          have hst3 : LogSt w2 gl g v va2 vs2 d rd2 ⟨first, n - 2, ep, res.2, res.1, false⟩ := by rw [← hres]; exact hst2
          have HS2 := Lib.hid hst3
          have HSEP3 : Hid (Sep w (.slice none 0 0) va2) := fun x hx => by
            rcases hsep2 x hx with e | e
            · cases e
            · exact .inr (Nat.le_trans HO.out.size e)
          have HO2 := Lib.hid (HO.out.trans' ho2)
          have HRS := Lib.hid hres
          clear hst2 hsep2 ho2 hres hst3
          go_wp2_with fail
          refine (clean_any gl g v va2 vs2 d rd2 _ _ HS2.out HLF.out (by show first + 2 + (n - 2) ≤ _; omega)).mono ?_
          rintro e w3 ⟨he, ⟨rd3, hst3⟩, ho3⟩
          have hop := Pl.openLog_runs (n := n) HLF.out HEP.out HE0.out (by exact HRS.out) (res := d.run (Pl.cleaned (Pl.stale d ep first res.2 (n - 2)))) rfl
          obtain ⟨d3, ok, hrun⟩ : ∃ d3 ok, d.run (Pl.cleaned (Pl.stale d ep first res.2 (n - 2))) = (d3, ok) := ⟨_, _, rfl⟩
          rw [hrun] at hop
          have hst4 : LogSt w3 gl g v va2 vs2 d3 rd3 ⟨first, n - 2, ep, res.2, res.1, false⟩ := by have := hst3; rw [hrun] at this; exact this
          have he4 : Ends ok 3 e := by have := he; rw [hrun] at this; exact this
          have HS4 := Lib.hid hst4
          have HO4 := Lib.hid (HO2.out.trans' (ho3.mono (fun _ _ e => (.inl e : lFa gl g v (.slice none 0 0) _))))
          have HOP := Lib.hid hop
          clear he hst3 ho3 hop hrun hst4
          rcases he4 with ⟨rfl, rfl⟩ | ⟨rfl, rfl⟩
          · go_wp2_with fail
            go_end0
            exact Open1Post.yes HS4.out HOP.out HSEP3.out HO4.out
          · unfold died
            go_wp2_with fail
            exact ⟨rfl, Open1Post.no (.inl rfl) HS4.out HOP.out HSEP3.out HO4.out⟩
end Go.Proofs.YtljmklohgpaopaaDoor

namespace Go.Proofs.YtljmklohgpaopaaDoor
open Go.RowKit

theorem enters_open (W : World) (a b c : Value) : (callFunc 60 #[a, b, c]).run Tryd.prog W = .ok (.enter 60 #[a, b, c]) W := by simp [go_sem]

/-- What opening leaves. -/
def OpenPost (g : Nat) (v : Value) (d : Pl.Dk) (first n : Nat) (w : World) (e : Ending) (w' : World) : Prop :=
  (∃ rd', DiskAt w' g v (Pl.openLog d first n).1 rd') ∧ Only (dF g v) w w' ∧
  ((∃ k, (Pl.openLog d first n).2 = .inl k ∧ (k = 3 ∨ k = 2) ∧ e = .returned (.tuple #[.pointer none, kindE k])) ∨
   (∃ gl va' vs' rd' l', (Pl.openLog d first n).2 = .inr l' ∧ e = .returned (.tuple #[.pointer (some ⟨gl, 0, none⟩), .nilIface]) ∧ LogSt w' gl g v va' vs' (Pl.openLog d first n).1 rd' l' ∧ w.heap.size ≤ gl ∧ ∀ x, va'.ownBlock = some x → w.heap.size ≤ x))

set_option maxHeartbeats 1000000 in
set_option maxRecDepth 100000 in
theorem wopen_yes (g : Nat) (v : Value) (d : Pl.Dk) (rd : Int) (first n : Nat) (w : World) (h : DiskAt w g v d rd) (hp : placedB d.secs.length first n 4 = true) :
    Calls Tryd.prog 35 #[.pointer (some ⟨g, 0, none⟩), .int .i64 (first : Nat), .int .i64 (n : Nat)] w (OpenPost g v d first n w) := by
  have hfit : 4 ≤ n ∧ first + n ≤ d.secs.length := by
    unfold placedB at hp
    simp only [Bool.and_eq_true, decide_eq_true_eq] at hp
    omega
  have hm := h.most
  obtain ⟨w2, hw2⟩ : ∃ w2, (w.alloc (.cells #[.pointer (some ⟨g, 0, none⟩)] 37)).alloc (.cells #[.int .i64 (first : Nat)] 3) = w2 := ⟨_, rfl⟩
  have hb : Below w.heap.size w w2 := by rw [← hw2]; exact ((Below.refl _ _).alloc (Nat.le_refl _) _).alloc (by simp) _
  have B1 : Blk w2 w.heap.size 37 [.pointer (some ⟨g, 0, none⟩)] := by rw [← hw2]; exact (Blk.new _ _ _).alloc _
  have B2 : Blk w2 (w.heap.size + 1) 3 [.int .i64 (first : Nat)] := by rw [← hw2]; exact Blk.newAt _ _ _ _ (by simp)
  have h2 := h.below hb
  have cD := B1.cell 0
  have cF := B2.cell 0
  simp only [List.getElem?_cons_zero] at cD cF
  have HP := Lib.hid (wplaced_any g v d rd first n 4 w2 h2)
  rw [hp] at HP
  have hm2 : (n : Int) - 2 = ((n - 2 : Nat) : Int) := by omega
  obtain ⟨w4, hw4⟩ : ∃ w4, (w2.alloc (.cells #[.pointer (some ⟨g, 0, none⟩), .int .i64 (first : Nat), .int .i64 (n - 2 : Nat), .int .u64 0, .int .i64 0, .slice none 0 0, .bool false] 125)).alloc (.cells #[.pointer (some ⟨w2.heap.size, 0, none⟩)] 39) = w4 := ⟨_, rfl⟩
  have hb4 : Below w2.heap.size w2 w4 := by rw [← hw4]; exact ((Below.refl _ _).alloc (Nat.le_refl _) _).alloc (by simp) _
  have B3 : Blk w4 w2.heap.size 125 [.pointer (some ⟨g, 0, none⟩), .int .i64 (first : Nat), .int .i64 (n - 2 : Nat), .int .u64 0, .int .i64 0, .slice none 0 0, .bool false] := by rw [← hw4]; exact (Blk.new _ _ _).alloc _
  have B4 : Blk w4 (w2.heap.size + 1) 39 [.pointer (some ⟨w2.heap.size, 0, none⟩)] := by rw [← hw4]; exact Blk.newAt _ _ _ _ (by simp)
  obtain ⟨gl, hgl⟩ : ∃ gl, w2.heap.size = gl := ⟨_, rfl⟩
  have hgw : w.heap.size ≤ gl := by rw [← hgl]; exact hb.size
  have HGW := Lib.hid hgw
  rw [hgl] at B3 B4 hw4 hb4
  have h4 := h2.below (hgl ▸ hb4)
  have hst : LogSt w4 gl g v (.slice none 0 0) [] d rd (lg0 first n 0) := ⟨h4, ⟨B3, by show first + 2 + (n - 2) ≤ 4096 ∧ 0 ≤ n - 2 ∧ (0 : Nat) < _; omega⟩, nil_rows _⟩
  have hbw : Below w.heap.size w w4 := hb.trans ((hgl ▸ hb4).mono hb.size)
  have hbe : Below w4.heap.size w4 (w4.alloc (.cells #[.nilIface] 70)) := (Below.refl _ _).alloc (Nat.le_refl _) _
  have B14 := B1.below (hgl ▸ hb4) B1.lt
  have B24 := B2.below (hgl ▸ hb4) B2.lt
  have hG := guardedK 60 #[.pointer (some ⟨w.heap.size, 0, none⟩), .pointer (some ⟨w.heap.size + 1, 0, none⟩), .pointer (some ⟨gl + 1, 0, none⟩)] w4
    (fun k w' => Blk w' (gl + 1) 39 [.pointer (some ⟨gl, 0, none⟩)] ∧ Blk w' w4.heap.size 70 [.nilIface] ∧ ∃ (va' : Value) (vs' : List Value) (rd' : Int) (l' : Pl.Lg), LogSt w' gl g v va' vs' (Pl.openLog d first n).1 rd' l' ∧ (Pl.openLog d first n).2 = (if k = 0 then .inr l' else .inl k) ∧ Sep w (.slice none 0 0) va' ∧ Only (dF g v) w w' ∧ w4.heap.size ≤ w'.heap.size) (fun W => enters_open W _ _ _) (by
      refine (open1_any gl g _ _ _ first n v d rd _ (hst.below hbe) (B14.below hbe B14.lt) (B24.below hbe B24.lt) (B4.below hbe B4.lt) hfit.2 hfit.1).mono ?_
      rintro e w' ⟨k, va', vs', rd', l', hk, hst', hop, hsep, ho⟩
      have BE := Blk.new w4 70 [.nilIface]
      have hkk := (hst.below hbe).kinds
      refine ⟨ho.blk_ hkk BE (by decide), k, hk, ho.blk_ hkk (B4.below hbe B4.lt) (by decide), ho.blk_ hkk BE (by decide), va', vs', rd', l', hst', hop, fun x hx => ?_, ?_, Nat.le_trans hbe.size ho.size⟩
      · rcases hsep x hx with e | e
        · exact .inl e
        · exact .inr (Nat.le_trans hbw.size (Nat.le_trans hbe.size e))
      · refine ((Only.of_below hbw (dF g v)).below hbe).trans ho (fun x hx e => ?_)
        rcases e with (e | e) | e
        · exact e
        · omega
        · cases e)
  have HGG := Lib.hid hG
  have hlt := Lib.hid h.lt
  have hs4 : gl + 1 < w4.heap.size := B4.lt
  have hmf : ∀ (fn : Fn) (first cap : Array Value) (w : World), (Instr.makeFunc fn first cap).run Tryd.prog w = .ok (.func fn first cap) w := fun _ _ _ _ => rfl
  have HST := Lib.hid hst
  have hbs := hbw.size
  clear h hp B1 B2 B3 B4 B14 B24 hb hb4 hbe hG h2 h4 hst hbw hgw
  go_enter Tryd.func35, Tryd.ntmps35
  go_wp2_with fail
  refine HP.out.mono ?_
  rintro e w' ⟨rfl, rfl⟩
  clear hw2
  go_wp2_with fail
  refine HGG.out.mono ?_
  rintro e w'' ⟨k, w', hk, ⟨hB4, hBE, va', vs', rd', l', hst', hop, hsep, ho, hsz⟩, hon, rfl⟩
  have hke : Kinds (· = w4.heap.size) w' [70] := fun x hx => by
    rw [hx]
    exact ⟨_, by simp, hBE.typ⟩
  have hst2 := hst'.onlyT hon hke (by decide) (by decide) (by decide) (by decide) (by decide)
  have HS2 := Lib.hid hst2
  have hB5 := hon.blk_ hke hB4 (by decide)
  have cL := hB5.cell 0
  simp only [List.getElem?_cons_zero] at cL
  have HSP : Hid (∀ x, va'.ownBlock = some x → w.heap.size ≤ x) := fun x hx => by
    rcases hsep x hx with e | e
    · cases e
    · exact e
  have HO : Hid (Only (dF g v) w w'') := ho.trans hon (fun x hx e => by omega)
  have HOP := Lib.hid hop
  clear hB4 hBE hst' hop hsep ho hsz hon hke hst2 hB5 hw4
  have hf : ∀ k, errK (k + 1) = kindE (k + 1) := fun k => rfl
  rcases hk with rfl | rfl | rfl
  · have h0 : errK 0 = .nilIface := rfl
    rw [h0]
    go_wp2_with fail
    go_ret2
    exact ⟨⟨rd', HS2.out.disk⟩, HO.out, .inr ⟨gl, va', vs', rd', l', by rw [HOP.out]; rfl, rfl, HS2.out, HGW.out, HSP.out⟩⟩
  · have h0 : errK 3 = .iface 25 (.int .i64 3) := rfl
    rw [h0]
    go_wp2_with fail
    go_ret2
    exact ⟨⟨rd', HS2.out.disk⟩, HO.out, .inl ⟨3, by rw [HOP.out]; rfl, .inl rfl, rfl⟩⟩
  · have h0 : errK 2 = .iface 25 (.int .i64 2) := rfl
    rw [h0]
    go_wp2_with fail
    go_ret2
    exact ⟨⟨rd', HS2.out.disk⟩, HO.out, .inl ⟨2, by rw [HOP.out]; rfl, .inr rfl, rfl⟩⟩
end Go.Proofs.YtljmklohgpaopaaDoor

namespace Go.Proofs.YtljmklohgpaopaaDoor
open Go.RowKit

theorem GE.only {F : Nat → Prop} {w w' : World} (h : GE w) (ho : Only F w w') (hn : ¬ F 0) : GE w' := by
  have hl : 0 < w.heap.size := GE.lt h
  unfold GE at h ⊢
  have hb := ho.block _ hl hn
  unfold World.cell? at h ⊢
  rw [hb]
  exact h

theorem append_kind (l : Pl.Lg) (d : Pl.Dk) (p : List UInt8) : (l.append d p).2.2 ≤ 21 := by
  unfold Pl.Lg.append
  split
  · simp
  · split
    · simp
    · split
      · simp
      · split <;> simp
theorem sync_kind (l : Pl.Lg) (d : Pl.Dk) : (l.sync d).2.2 ≤ 21 := by
  unfold Pl.Lg.sync
  split
  · simp
  · split <;> simp
theorem reset_kind (l : Pl.Lg) (d : Pl.Dk) : (l.reset d).2.2 ≤ 21 := by
  unfold Pl.Lg.reset
  split
  · simp
  · split <;> simp
theorem create_kind (d : Pl.Dk) (first n : Nat) : (Pl.createLog d first n).2 ≤ 21 := by
  unfold Pl.createLog
  split <;> simp
theorem sync_all (l : Pl.Lg) (d : Pl.Dk) : (l.sync d).1.all = l.all := by
  unfold Pl.Lg.sync
  split
  · rfl
  · split <;> rfl
theorem LogPost.logOut {gl g : Nat} {v va : Value} {vs : List Value} {d : Pl.Dk} {rd : Int} {l : Pl.Lg} {w w' : World} {e : Ending} (hst : LogSt w gl g v va vs d rd l) (h : LogPost (l.sync d) gl g v va rd w e w') : LogOut (l.sync d) gl g v va rd w e w' := by
  obtain ⟨he, hd, hl, ho⟩ := h
  refine ⟨he, va, vs, ⟨hd, hl, ?_⟩, Sep.refl _ _, RSep.refl hst.rows.own, ho.mono (fun _ _ h => .inl h)⟩
  rw [sync_all]
  exact hst.rows.only ho (lF_kinds hst.disk hst.cells) (by decide) (by decide)

/-- What a call of package plain leaves. -/
def PlainOut (r : Pl.Lg × Pl.Dk × Nat) (gl g : Nat) (v va : Value) (rd : Int) (w : World) (e : Ending) (w' : World) : Prop :=
  e = .returned (errA (r.2.2 : Nat) ⟨#[]⟩) ∧ ∃ va' vs', LogSt w' gl g v va' vs' r.2.1 rd r.1 ∧ Sep w va va' ∧ RSep w va vs' ∧ Only (lFa gl g v va) w w'
theorem only_set3 {F : Nat → Prop} {w w' : World} (h : Only F w w') (x0 x1 x2 : Value) : Only F w (((w'.setCell ⟨w.heap.size, 0, none⟩ x0).setCell ⟨w.heap.size, 1, none⟩ x1).setCell ⟨w.heap.size, 2, none⟩ x2) :=
  ((h.setCell (p := ⟨w.heap.size, 0, none⟩) (.inr (Nat.le_refl _)) _).setCell (p := ⟨w.heap.size, 1, none⟩) (.inr (Nat.le_refl _)) _).setCell (p := ⟨w.heap.size, 2, none⟩) (.inr (Nat.le_refl _)) _
/-- The result's cells are laid. -/
theorem LogSt.set3 {w : World} {b gl g : Nat} {v va a0 a1 a2 : Value} {vs : List Value} {d : Pl.Dk} {rd : Int} {l : Pl.Lg} (h : LogSt w gl g v va vs d rd l) (hb : Blk w b 27 [a0, a1, a2]) (x0 x1 x2 : Value) :
    LogSt (((w.setCell ⟨b, 0, none⟩ x0).setCell ⟨b, 1, none⟩ x1).setCell ⟨b, 2, none⟩ x2) gl g v va vs d rd l := by
  have ho : Only (· = b) w (((w.setCell ⟨b, 0, none⟩ x0).setCell ⟨b, 1, none⟩ x1).setCell ⟨b, 2, none⟩ x2) :=
    (((Only.refl (· = b) w).setCell (p := ⟨b, 0, none⟩) (.inl rfl) _).setCell (p := ⟨b, 1, none⟩) (.inl rfl) _).setCell (p := ⟨b, 2, none⟩) (.inl rfl) _
  have hk : Kinds (· = b) w [27] := fun x hx => by
    rw [hx]
    exact ⟨_, by simp, hb.typ⟩
  exact h.onlyT ho hk (by decide) (by decide) (by decide) (by decide) (by decide)

/-- What stands behind the call. -/
theorem LogOut.told {r : Pl.Lg × Pl.Dk × Nat} {gl g : Nat} {v va : Value} {vs : List Value} {d : Pl.Dk} {l : Pl.Lg} {rd : Int} {w w2 w3 : World} {e : Ending} (hst : LogSt w gl g v va vs d rd l) (h : LogOut r gl g v va rd (w.alloc err0) e w2) (hb : Below w2.heap.size w2 w3) :
    Blk w3 w.heap.size 27 [.int .i64 0, .string ⟨#[]⟩, .bool false] ∧ ∀ x0 x1 x2, PlainOut r gl g v va rd w (.returned (errA (r.2.2 : Nat) ⟨#[]⟩)) (((w3.setCell ⟨w.heap.size, 0, none⟩ x0).setCell ⟨w.heap.size, 1, none⟩ x1).setCell ⟨w.heap.size, 2, none⟩ x2) := by
  obtain ⟨_, va', vs', hst2, hsep, hrs, ho⟩ := h
  have hb0 : Below w.heap.size w (w.alloc err0) := (Below.refl _ _).alloc (Nat.le_refl _) _
  have hst1 := hst.below hb0
  have hB1 : Blk (w.alloc err0) w.heap.size 27 [.int .i64 0, .string ⟨#[]⟩, .bool false] := Blk.new w 27 _
  have hB2 := ho.blk_ hst1.kinds hB1 (by decide)
  have hB3 := hB2.below hb hB2.lt
  refine ⟨hB3, fun x0 x1 x2 => ⟨rfl, va', vs', (hst2.below hb).set3 hB3 _ _ _, fun x hx => ?_, hrs.back hb0, ?_⟩⟩
  · rcases hsep x hx with e | e
    · exact .inl e
    · exact .inr (Nat.le_trans hb0.size e)
  · exact only_set3 (((Only.of_below hb0 (lFa gl g v va)).trans' ho).below hb) _ _ _

set_option maxHeartbeats 1000000 in
theorem pAppend_any (gl g : Nat) (v va : Value) (vs : List Value) (d : Pl.Dk) (rd : Int) (l : Pl.Lg) (p : List UInt8) (A : Option Addr) (cap : Nat) (w : World) (h : LogSt w gl g v va vs d rd l) (hG : GE w) (hGF : ¬ lFa gl g v va 0)
    (hb : BytesAt w A p) (hA : ∀ q, A = some q → q.block < w.heap.size ∧ ¬ lFa gl g v va q.block) (hcap : p.length ≤ cap) (hpl : p.length ≤ 140737488351232) (hfit : l.first + 2 + l.data ≤ d.secs.length) (hrows : l.all.length ≤ 5000) :
    Calls Tryd.prog 38 #[.pointer (some ⟨gl, 0, none⟩), .slice A p.length cap] w (PlainOut (l.append d p) gl g v va rd w) := by
  have hb0 : Below w.heap.size w (w.alloc err0) := (Below.refl _ _).alloc (Nat.le_refl _) _
  have HC := Lib.hid (wlAppend_any gl g v va vs d rd l p A cap _ (h.below hb0) (hb.keep hb0) (fun q hq => ⟨Nat.lt_of_lt_of_le (hA q hq).1 hb0.size, (hA q hq).2⟩) hcap hpl hfit hrows)
  have HST := Lib.hid h
  have hk := append_kind l d p
  have HG0 := Lib.hid (hG.below hb0)
  obtain ⟨r, hr⟩ : ∃ r, l.append d p = r := ⟨_, rfl⟩
  rw [hr] at HC hk ⊢
  clear h hG hb0 hb hA hcap hfit hrows hr
  go_enter Tryd.func38, Tryd.ntmps38
  go_wp2_with fail
  refine HC.out.mono ?_
  intro e w2 hpost
  have HP := Lib.hid hpost
  obtain ⟨rfl, va', vs', hst2, hsep, _, ho⟩ := hpost
  have HG2 := Lib.hid (HG0.out.only ho hGF)
  clear hst2 hsep ho
  go_wp2_with fail
  refine (told_any _ _ ⟨#[]⟩ _ HG2.out (errK_err _ _) hk).mono ?_
  rintro e w3 ⟨rfl, hb3⟩
  obtain ⟨hB3, hfin⟩ := HP.out.told HST.out hb3
  obtain ⟨c0, c1, c2, f0, f1, f2⟩ := facts3 hB3
  have HB3 := Lib.hid hB3
  have HF := Lib.hid hfin
  clear hb3 hB3 hfin
  go_wp2_with fail
  exact bodyPost_ret (v := errA _ ⟨#[]⟩) (results_err1 rfl rfl (HB3.out.set3 _ _ _)) rfl (HF.out _ _ _)

set_option maxHeartbeats 1000000 in
theorem pSync_any (gl g : Nat) (v va : Value) (vs : List Value) (d : Pl.Dk) (rd : Int) (l : Pl.Lg) (w : World) (h : LogSt w gl g v va vs d rd l) (hG : GE w) (hGF : ¬ lFa gl g v va 0) :
    Calls Tryd.prog 41 #[.pointer (some ⟨gl, 0, none⟩)] w (PlainOut (l.sync d) gl g v va rd w) := by
  have hb0 : Below w.heap.size w (w.alloc err0) := (Below.refl _ _).alloc (Nat.le_refl _) _
  have hc := (wlSync_any gl g v va d rd l _ (h.disk.below hb0) (h.cells.below hb0)).mono (fun e w2 hp => hp.logOut (h.below hb0))
  have HC := Lib.hid hc
  have HST := Lib.hid h
  have hk := sync_kind l d
  have HG0 := Lib.hid (hG.below hb0)
  obtain ⟨r, hr⟩ : ∃ r, l.sync d = r := ⟨_, rfl⟩
  rw [hr] at HC hk ⊢
  clear h hG hb0 hr hc
  go_enter Tryd.func41, Tryd.ntmps41
  go_wp2_with fail
  refine HC.out.mono ?_
  intro e w2 hpost
  have HP := Lib.hid hpost
  obtain ⟨rfl, va', vs', hst2, hsep, _, ho⟩ := hpost
  have HG2 := Lib.hid (HG0.out.only ho hGF)
  clear hst2 hsep ho
  go_wp2_with fail
  refine (told_any _ _ ⟨#[]⟩ _ HG2.out (errK_err _ _) hk).mono ?_
  rintro e w3 ⟨rfl, hb3⟩
  obtain ⟨hB3, hfin⟩ := HP.out.told HST.out hb3
  obtain ⟨c0, c1, c2, f0, f1, f2⟩ := facts3 hB3
  have HB3 := Lib.hid hB3
  have HF := Lib.hid hfin
  clear hb3 hB3 hfin
  go_wp2_with fail
  exact bodyPost_ret (v := errA _ ⟨#[]⟩) (results_err1 rfl rfl (HB3.out.set3 _ _ _)) rfl (HF.out _ _ _)

set_option maxHeartbeats 1000000 in
theorem pReset_any (gl g : Nat) (v va : Value) (vs : List Value) (d : Pl.Dk) (rd : Int) (l : Pl.Lg) (w : World) (h : LogSt w gl g v va vs d rd l) (hG : GE w) (hGF : ¬ lFa gl g v va 0) (hfit : l.first + 2 ≤ d.secs.length) (hep : l.epoch + 1 < 18446744073709551616) :
    Calls Tryd.prog 42 #[.pointer (some ⟨gl, 0, none⟩)] w (PlainOut (l.reset d) gl g v va rd w) := by
  have hb0 : Below w.heap.size w (w.alloc err0) := (Below.refl _ _).alloc (Nat.le_refl _) _
  have hc := wlReset_any gl g v va vs d rd l _ (h.below hb0) hfit hep
  have HC := Lib.hid hc
  have HST := Lib.hid h
  have hk := reset_kind l d
  have HG0 := Lib.hid (hG.below hb0)
  obtain ⟨r, hr⟩ : ∃ r, l.reset d = r := ⟨_, rfl⟩
  rw [hr] at HC hk ⊢
  clear h hG hb0 hr hc hfit hep
  go_enter Tryd.func42, Tryd.ntmps42
  go_wp2_with fail
  refine HC.out.mono ?_
  intro e w2 hpost
  have HP := Lib.hid hpost
  obtain ⟨rfl, va', vs', hst2, hsep, _, ho⟩ := hpost
  have HG2 := Lib.hid (HG0.out.only ho hGF)
  clear hst2 hsep ho
  go_wp2_with fail
  refine (told_any _ _ ⟨#[]⟩ _ HG2.out (errK_err _ _) hk).mono ?_
  rintro e w3 ⟨rfl, hb3⟩
  obtain ⟨hB3, hfin⟩ := HP.out.told HST.out hb3
  obtain ⟨c0, c1, c2, f0, f1, f2⟩ := facts3 hB3
  have HB3 := Lib.hid hB3
  have HF := Lib.hid hfin
  clear hb3 hB3 hfin
  go_wp2_with fail
  exact bodyPost_ret (v := errA _ ⟨#[]⟩) (results_err1 rfl rfl (HB3.out.set3 _ _ _)) rfl (HF.out _ _ _)

/-- The world with the result laid. -/
def set3 (w : World) (b k : Nat) : World := ((w.setCell ⟨b, 0, none⟩ (.int .i64 (k : Nat))).setCell ⟨b, 1, none⟩ (.string ⟨#[]⟩)).setCell ⟨b, 2, none⟩ (.bool true)
set_option maxHeartbeats 1000000 in
theorem pCreate_gen (a b c : Value) (w : World) (k : Nat) (hk : k ≤ 21) (Q : World → Prop) (hc : Calls Tryd.prog 36 #[a, b, c] (w.alloc err0) fun e w2 => e = .returned (errK k) ∧ Q w2 ∧ GE w2 ∧ Blk w2 w.heap.size 27 [.int .i64 0, .string ⟨#[]⟩, .bool false]) :
    Calls Tryd.prog 16 #[a, b, c] w fun e w' => e = .returned (errA (k : Nat) ⟨#[]⟩) ∧ ∃ w2 w3, Q w2 ∧ Below w2.heap.size w2 w3 ∧ Blk w3 w.heap.size 27 [.int .i64 0, .string ⟨#[]⟩, .bool false] ∧ w' = set3 w3 w.heap.size k := by
  have HC := Lib.hid hc
  clear hc
  go_enter Tryd.func16, Tryd.ntmps16
  go_wp2_with fail
  refine HC.out.mono ?_
  rintro e w2 ⟨rfl, hq, hG2, hB2⟩
  have HQ := Lib.hid hq
  have HB2 := Lib.hid hB2
  clear hq hB2
  go_wp2_with fail
  refine (told_any _ _ ⟨#[]⟩ _ hG2 (errK_err _ _) hk).mono ?_
  rintro e w3 ⟨rfl, hb3⟩
  have hB3 := HB2.out.below hb3 HB2.out.lt
  obtain ⟨c0, c1, c2, f0, f1, f2⟩ := facts3 hB3
  have HB3 := Lib.hid hB3
  have HBE := Lib.hid hb3
  clear hb3 hB3
  go_wp2_with fail
  exact bodyPost_ret (v := errA _ ⟨#[]⟩) (results_err1 rfl rfl (HB3.out.set3 _ _ _)) rfl ⟨rfl, w2, w3, HQ.out, HBE.out, HB3.out, rfl⟩
set_option maxHeartbeats 1000000 in
theorem pOpen_gen (a b c : Value) (w : World) (k : Nat) (hk : k ≤ 21) (Q : Value → World → Prop) (hc : Calls Tryd.prog 35 #[a, b, c] (w.alloc err0) fun e w2 => ∃ o, e = .returned (.tuple #[.pointer o, errK k]) ∧ Q (.pointer o) w2 ∧ GE w2 ∧ Blk w2 w.heap.size 27 [.int .i64 0, .string ⟨#[]⟩, .bool false]) :
    Calls Tryd.prog 15 #[a, b, c] w fun e w' => ∃ o, e = .returned (.tuple #[.pointer o, errA (k : Nat) ⟨#[]⟩]) ∧ ∃ w2 w3, Q (.pointer o) w2 ∧ Below w2.heap.size w2 w3 ∧ Blk w3 w.heap.size 27 [.int .i64 0, .string ⟨#[]⟩, .bool false] ∧ w' = set3 w3 w.heap.size k := by
  have HC := Lib.hid hc
  clear hc
  go_enter Tryd.func15, Tryd.ntmps15
  go_wp2_with fail
  refine HC.out.mono ?_
  rintro e w2 ⟨o, rfl, hq, hG2, hB2⟩
  have HQ := Lib.hid hq
  have HB2 := Lib.hid hB2
  clear hq hB2
  go_wp2_with fail
  refine (told_any _ _ ⟨#[]⟩ _ hG2 (errK_err _ _) hk).mono ?_
  rintro e w3 ⟨rfl, hb3⟩
  have hB3 := HB2.out.below hb3 HB2.out.lt
  obtain ⟨c0, c1, c2, f0, f1, f2⟩ := facts3 hB3
  have HB3 := Lib.hid hB3
  have HBE := Lib.hid hb3
  clear hb3 hB3
  go_wp2_with fail
  exact bodyPost_ret (v := .tuple #[.pointer o, errA _ ⟨#[]⟩]) (results_err2 rfl rfl rfl (HB3.out.set3 _ _ _)) rfl ⟨o, rfl, w2, w3, HQ.out, HBE.out, HB3.out, rfl⟩
end Go.Proofs.YtljmklohgpaopaaDoor
