/- The walks of the log's placed, Create, do, Sync. The walk of the reference's Extends. The walk of the reference's Attested. The walk of chain.Attested. The walks of daybook's and plain's Extends and Attested; of the harness's four. The walks of the log's Create, do, Sync, Reset. The walks of the log's Sync, Reset. -/
import Derived.Test.YtljmklohgpaopaaDoorMgLogged4
import Derived.Deep.RegionHeld3
import Derived.LoopTactic
import Derived.Test.YtljmklohgpaopaaDoorMgLogged3
import Derived.Deep.QuietTactic
import Derived.BigQuiet
import Derived.Deep.RegionWith
import Derived.Test.YtljmklohgpaopaaDoorMgLogged2
set_option linter.unusedVariables false
set_option linter.unusedSimpArgs false

namespace Go.Proofs.YtljmklohgpaopaaDoor
open Go.RowKit

namespace Pl
theorem run_go {d dk : Dk} {a : List Ch} {c : Ch} (h : d.run a = (dk, true)) (hal : dk.alive = true) : d.run (a ++ [c]) = (dk.change c, true) := by
  rw [Dk.run_append, h, if_pos rfl, Dk.run_cons, if_pos hal, Dk.run_nil]
theorem run_stop {d dk : Dk} {a : List Ch} {c : Ch} (r : List Ch) (h : d.run a = (dk, true)) (hal : dk.alive = false) : d.run (a ++ c :: r) = (dk.change c, false) := by
  rw [Dk.run_append, h, if_pos rfl, Dk.run_cons, if_neg (by rw [hal]; decide)]
theorem change_length (d : Dk) (c : Ch) : (d.change c).secs.length = d.secs.length := by
  unfold Dk.change
  split
  · show (c.on d.secs).length = _
    cases c <;> simp [Ch.on]
  · rfl
theorem run_length (d : Dk) (l : List Ch) : (d.run l).1.secs.length = d.secs.length := by
  induction l generalizing d with
  | nil => rfl
  | cons c r ih =>
    rw [Dk.run_cons]
    split
    · rw [ih, change_length]
    · exact change_length d c
end Pl

theorem Blk.uniqT {w : World} {g : Nat} {t t' : TypeId} {cs cs' : List Value} (h : Blk w g t cs) (h' : Blk w g t' cs') : t = t' := by
  unfold Blk at h h'
  rw [h] at h'
  injection h' with h'
  injection h' with _ h'
theorem own_type {w : World} {base size n g : Nat} {e t : TypeId} {v : Value} {xs cs : List Value} (h : w.ownsRow base e size v n xs) (hv : v.ownBlock = some g) (hb : Blk w g t cs) : t = e := by
  rcases h.2 with ⟨rfl, _⟩ | ⟨g', cap, cur, rfl, _, hg, _⟩
  · cases hv
  · have : g' = g := by simpa [Value.ownBlock] using hv
    subst this
    unfold Blk at hb
    rw [hb] at hg
    injection hg with hg
    injection hg with _ hg
theorem DiskAt.off {w : World} {g b : Nat} {v : Value} {d : Pl.Dk} {rd : Int} {t : TypeId} {cs : List Value} (h : DiskAt w g v d rd) (hb : Blk w b t cs) (h1 : t ≠ 90) (h2 : t ≠ 92) : ¬ dF g v b := by
  obtain ⟨wr, sy, hg⟩ := h.blk
  rintro (rfl | hv)
  · exact h1 (hb.uniqT hg)
  · exact h2 (own_type h.own hv hb)
/-- May a log (a tree) lie there? -/
def placedB (n : Nat) (first sectors least : Int) : Bool := decide (least ≤ sectors) && (decide (0 ≤ first) && (decide (first ≤ (n : Int)) && decide (sectors ≤ (n : Int) - first)))

set_option maxHeartbeats 1000000 in
theorem wplaced_any (g : Nat) (v : Value) (d : Pl.Dk) (rd : Int) (first sectors least : Int) (w : World) (h : DiskAt w g v d rd) :
    Calls Tryd.prog 58 #[.pointer (some ⟨g, 0, none⟩), .int .i64 first, .int .i64 sectors, .int .i64 least] w fun e w' => e = .returned (.bool (placedB d.secs.length first sectors least)) ∧ w = w' := by
  have hm := h.most
  have H := Lib.hid (sectors_any g v d rd w h)
  obtain ⟨n, hn⟩ : ∃ n, d.secs.length = n := ⟨_, rfl⟩
  rw [hn] at hm H ⊢
  clear hn h
  by_cases h1 : least ≤ sectors
  · have e1 : decide (least ≤ sectors) = true := decide_eq_true h1
    by_cases h2 : 0 ≤ first
    · have e2 : decide (0 ≤ first) = true := decide_eq_true h2
      by_cases h3 : first ≤ (n : Int)
      · have e3 : decide (first ≤ (n : Int)) = true := decide_eq_true h3
        have hp : Hid (placedB n first sectors least = decide (sectors ≤ (n : Int) - first)) := by rw [Hid]; unfold placedB; rw [e1, e2, e3]; simp
        go_enter Tryd.func58, Tryd.ntmps58
        go_wp2_with fail
        refine H.out.mono ?_
        rintro e w' ⟨rfl, rfl⟩
        go_wp2_with fail
        refine H.out.mono ?_
        rintro e w' ⟨rfl, rfl⟩
        go_wp2_with fail
        go_ret
        exact ⟨by rw [hp.out]; rfl, rfl⟩
      · have e3 : decide (first ≤ (n : Int)) = false := decide_eq_false h3
        have hp : Hid (placedB n first sectors least = false) := by rw [Hid]; unfold placedB; rw [e3]; simp
        go_enter Tryd.func58, Tryd.ntmps58
        go_wp2_with fail
        refine H.out.mono ?_
        rintro e w' ⟨rfl, rfl⟩
        go_wp2_with fail
        go_ret
        exact ⟨by rw [hp.out]; rfl, rfl⟩
    · have e2 : decide (0 ≤ first) = false := decide_eq_false h2
      have hp : Hid (placedB n first sectors least = false) := by rw [Hid]; unfold placedB; rw [e2]; simp
      go_enter Tryd.func58, Tryd.ntmps58
      go_wp2_with fail
      go_ret
      exact ⟨by rw [hp.out]; rfl, rfl⟩
  · have e1 : decide (least ≤ sectors) = false := decide_eq_false h1
    have hp : Hid (placedB n first sectors least = false) := by rw [Hid]; unfold placedB; rw [e1]; simp
    go_enter Tryd.func58, Tryd.ntmps58
    go_wp2_with fail
    go_ret
    exact ⟨by rw [hp.out]; rfl, rfl⟩

/-- What a call leaves that does these changes. -/
def RunPost (ops : List Pl.Ch) (g : Nat) (v : Value) (d : Pl.Dk) (rd : Int) (w : World) (e : Ending) (w' : World) : Prop :=
  Ends (d.run ops).2 3 e ∧ DiskAt w' g v (d.run ops).1 rd ∧ Only (dF g v) w w'
theorem RunPost.stop {ops a r : List Pl.Ch} {c : Pl.Ch} {g : Nat} {v : Value} {d dk : Pl.Dk} {rd : Int} {w w' : World} (he : ops = a ++ c :: r) (h : d.run a = (dk, true)) (hal : dk.alive = false) (hd : DiskAt w' g v (dk.change c) rd) (ho : Only (dF g v) w w') : RunPost ops g v d rd w (died 3) w' := by
  have := Pl.run_stop r h hal (c := c)
  rw [← he] at this
  unfold RunPost
  rw [this]
  exact ⟨Ends.no 3, hd, ho⟩
theorem RunPost.good {ops : List Pl.Ch} {g : Nat} {v : Value} {d dk : Pl.Dk} {rd : Int} {w w' : World} (h : d.run ops = (dk, true)) (hd : DiskAt w' g v dk rd) (ho : Only (dF g v) w w') : RunPost ops g v d rd w (.returned (.tuple #[])) w' := by
  unfold RunPost
  rw [h]
  exact ⟨Ends.good 3, hd, ho⟩

def wrs (first k : Nat) : List Pl.Ch := (List.range k).map fun i => Pl.Ch.wr (first + i) []
theorem wrs_succ (first k : Nat) : wrs first (k + 1) = wrs first k ++ [.wr (first + k) []] := by simp [wrs, List.range_succ]
theorem createOps_eq (first n : Nat) : Pl.createOps first n = wrs first n ++ [.sy, .wr (first + 1) (Pl.slotText 1), .sy] := rfl
theorem wrs_split (first k n : Nat) (h : k < n) : ∃ r, wrs first n = wrs first k ++ .wr (first + k) [] :: r := by
  refine ⟨(List.range (n - (k + 1))).map (fun i => Pl.Ch.wr (first + (k + 1 + i)) []), ?_⟩
  have : n = (k + 1) + (n - (k + 1)) := by omega
  unfold wrs
  conv => lhs; rw [this, List.range_add, List.map_append, List.range_succ, List.map_append]
  simp [List.map_map]

set_option maxHeartbeats 2000000 in
set_option maxRecDepth 100000 in
theorem create1_any (g bS bD bF first n : Nat) (v : Value) (d : Pl.Dk) (rd : Int) (w : World) (h : DiskAt w g v d rd) (hS : Blk w bS 3 [.int .i64 (n : Nat)]) (hD : Blk w bD 37 [.pointer (some ⟨g, 0, none⟩)]) (hF : Blk w bF 3 [.int .i64 (first : Nat)])
    (hfit : first + n ≤ d.secs.length) (hn : 4 ≤ n) :
    Calls Tryd.prog 66 #[.pointer (some ⟨bS, 0, none⟩), .pointer (some ⟨bD, 0, none⟩), .pointer (some ⟨bF, 0, none⟩)] w (RunPost (Pl.createOps first n) g v d rd w) := by
  have hm := h.most
  have H := Lib.hid h
  have HD := Lib.hid hD
  have HF := Lib.hid hF
  have offD := Lib.hid (h.off hD (by decide) (by decide))
  have offF := Lib.hid (h.off hF (by decide) (by decide))
  have cS := hS.cell 0
  simp only [List.getElem?_cons_zero] at cS
  obtain ⟨N, hN⟩ : ∃ N, d.secs.length = N := ⟨_, rfl⟩
  rw [hN] at hm hfit
  have HN := Lib.hid hN
  have hes : (⟨#[]⟩ : ByteArray) = tstr [] := rfl
  have HES := Lib.hid hes
  clear h hS hD hF hN hes
  go_enter Tryd.func66, Tryd.ntmps66
  go_wp2_with fail
  go_loopw [5] (fun i W => ∃ (k : Nat) (dk : Pl.Dk), k ≤ n ∧ i = .int .i64 (k : Int) ∧ Hid (d.run (wrs first k) = (dk, true)) ∧ Hid (DiskAt W g v dk rd) ∧ Hid (Only (dF g v) w W)) (fun i _ => n - (intOf i).toNat)
  case atStart => exact ⟨0, d, Nat.zero_le _, rfl, rfl, H.out, Only.refl _ _⟩
  case round =>
    obtain ⟨k, dk, hk, rfl, HR, HDk, HO⟩ := hrel
    have hlen : dk.secs.length = N := by
      have := Pl.run_length d (wrs first k)
      rw [HR.out] at this
      exact this.trans HN.out
    have HLEN := Lib.hid hlen
    have hBD := HO.out.blk HD.out offD.out
    have hBF := HO.out.blk HF.out offF.out
    have cD := hBD.cell 0
    have cF := hBF.cell 0
    simp only [List.getElem?_cons_zero] at cD cF
    clear hlen hBD hBF
    by_cases hkn : k < n
    · obtain ⟨r, hr⟩ := wrs_split first k n hkn
      have HRR := Lib.hid hr
      obtain ⟨p, hp⟩ : ∃ p : Nat, (first : Int) + k = p := ⟨first + k, by omega⟩
      have hpe : p = first + k := by omega
      have HP := Lib.hid hpe
      clear hr hpe
      go_wp2_with fail
      rw [HES.out]
      refine (wwrite_any g v dk rd p [] _ HDk.out (by rw [HLEN.out, HP.out]; omega) (by simp)).mono ?_
      rintro e w2 ⟨⟨hal, rfl⟩ | ⟨hal, rfl⟩, h2, ho2⟩
      · have H2 := Lib.hid h2
        have O2 := Lib.hid (HO.out.trans' ho2)
        have R2 := Lib.hid (Pl.run_go (c := .wr p []) HR.out hal)
        clear h2 ho2 hal
        go_wp2_with fail
        refine ⟨⟨k + 1, _, by omega, by go_num, ?_, H2.out, O2.out⟩, by simp [intOf]; omega⟩
        rw [Hid, wrs_succ, ← HP.out]
        exact R2.out
      · have H2 := Lib.hid h2
        have O2 := Lib.hid (HO.out.trans' ho2)
        have HAL := Lib.hid hal
        clear h2 ho2 hal
        unfold died
        go_wp2_with fail
        exact ⟨rfl, RunPost.stop (by rw [createOps_eq, HRR.out, ← HP.out, List.append_assoc]; rfl) HR.out HAL.out H2.out O2.out⟩
    · obtain rfl : k = n := by omega
      have H4 : Hid (4 ≤ k) := hn
      clear hn
      go_wp2_with fail
      refine (wsync_any g v dk rd _ HDk.out).mono ?_
      rintro e w2 ⟨⟨hal, rfl⟩ | ⟨hal, rfl⟩, h2, ho2⟩
      · have H2 := Lib.hid h2
        have O2 := Lib.hid (HO.out.trans' ho2)
        have R2 := Lib.hid (Pl.run_go (c := .sy) HR.out hal)
        obtain ⟨d2, hd2⟩ : ∃ d2, dk.change .sy = d2 := ⟨_, rfl⟩
        rw [hd2] at H2 R2
        have L2 : Hid (d2.secs.length = N) := by rw [Hid, ← hd2, Pl.change_length]; exact HLEN.out
        have hBD := O2.out.blk HD.out offD.out
        have hBF := O2.out.blk HF.out offF.out
        have cD2 := hBD.cell 0
        have cF2 := hBF.cell 0
        simp only [List.getElem?_cons_zero] at cD2 cF2
        have s0 := Lib.hid (And.intro cD2 cF2)
        have HBD := Lib.hid hBD
        have HBF := Lib.hid hBF
        obtain ⟨p, hp⟩ : ∃ p : Nat, (first : Int) + 1 = p := ⟨first + 1, by omega⟩
        have HP : Hid (p = first + 1) := by rw [Hid]; omega
        have hpl : p < N := by have := H4.out; have := HP.out; omega
        have hw1 : IntKind.i64.wrap (p : Int) = (p : Int) := IntWalk.i64_in _ (by omega)
        have h1s : (Pl.slotText 1).length ≤ 256 := by decide
        have HX := Lib.hid h1s
        obtain ⟨st1, hst1⟩ : ∃ t, tstr (Pl.slotText 1) = t := ⟨_, rfl⟩
        have HST := Lib.hid hst1
        clear h2 ho2 hal cD cF cS hBD hBF hd2 h1s hst1
        go_wp2_with fail
        refine wp_region_held_drew (S := fun W : World => W.cell? ⟨bD, 0, none⟩ = some (.pointer (some ⟨g, 0, none⟩)) ∧ W.cell? ⟨bF, 0, none⟩ = some (.int .i64 (first : Nat))) (by kernel_rfl) s0.out (fun hHeld => ?_)
        refine wpAnyH_take (i := 0) (oi := _) (v := ?_) rfl (by kernel_rfl) (by kernel_rfl) (by kernel_rfl) (fun _ _ _ h => h) (Or.inl ⟨by rfl, ?_⟩) (by assumption) ?_
        rotate_left
        · intro W hSw
          (try dsimp only at hSw)
          go_simp
          rfl
        (try simp only [Act.put, List.setIfInBounds_toArray, List.set_cons_zero, List.set_cons_succ])
        refine wpAnyH_take (i := 1) (oi := _) (v := ?_) rfl (by kernel_rfl) (by kernel_rfl) (by kernel_rfl) (fun _ _ _ h => h) (Or.inl ⟨by rfl, ?_⟩) (by assumption) ?_
        rotate_left
        · intro W hSw
          (try dsimp only at hSw)
          go_simp
          rfl
        (try simp only [Act.put, List.setIfInBounds_toArray, List.set_cons_zero, List.set_cons_succ])
        refine wpAnyH_take (i := 2) (oi := _) (v := ?_) rfl (by kernel_rfl) (by kernel_rfl) (by kernel_rfl) (fun _ _ _ h => h) (Or.inl ⟨by rfl, ?_⟩) (by assumption) ?_
        rotate_left
        · intro W hSw
          (try dsimp only at hSw)
          go_simp
          rfl
        (try simp only [Act.put, List.setIfInBounds_toArray, List.set_cons_zero, List.set_cons_succ])
        refine wpAnyH_ready (rs := [3]) (by kernel_rfl) (by simp) ?_
        refine AllReadyH.cons (o := _) rfl (fun K hK => ?_) AllReadyH.nil
        go_simp
        refine (slot_at 1 _ _ rfl (by decide)).mono ?_
        rintro e w3 ⟨rfl, hb3⟩
        rw [HST.out]
        have hb3' := undrew hb3
        have HBD3 := Lib.hid (HBD.out.below hb3' HBD.out.lt)
        have HBF3 := Lib.hid (HBF.out.below hb3' HBF.out.lt)
        have H3 := Lib.hid (H2.out.below hb3')
        have O3 := Lib.hid (O2.out.below hb3')
        clear hb3 hb3'
        go_wp2_with fail
        refine hK.out _ _ ⟨HBD3.out.cell 0, HBF3.out.cell 0⟩ (fun hHeld3 => ?_)
        clear hK K
        (try simp only [Act.put, List.setIfInBounds_toArray, List.set_cons_zero, List.set_cons_succ])
        refine wpAnyH_ready (rs := [4]) (by kernel_rfl) (by simp) ?_
        refine AllReadyH.cons (o := _) rfl (fun K hK => ?_) AllReadyH.nil
        go_simp
        rw [← HST.out]
        refine (wwrite_any g v d2 rd p (Pl.slotText 1) _ H3.out (by rw [L2.out]; exact hpl) HX.out).mono ?_
        rintro e w4 ⟨⟨hal, rfl⟩ | ⟨hal, rfl⟩, h4, ho4⟩
        · have H4' := Lib.hid h4
          have O4 := Lib.hid (O3.out.trans' ho4)
          have R4 := Lib.hid (Pl.run_go (c := .wr p (Pl.slotText 1)) R2.out hal)
          have cD4 := (O4.out.blk HD.out offD.out).cell 0
          have cF4 := (O4.out.blk HF.out offF.out).cell 0
          simp only [List.getElem?_cons_zero] at cD4 cF4
          clear h4 ho4 hal
          go_wp2_with fail
          refine hK.out _ _ ⟨cD4, cF4⟩ (fun _ => ?_)
          refine wpAnyH_done (by kernel_rfl) ?_ _
          clear hK K hHeld hHeld3
          go_wp2_with fail
          refine (wsync_any g v _ rd _ H4'.out).mono ?_
          rintro e w5 ⟨⟨hal, rfl⟩ | ⟨hal, rfl⟩, h5, ho5⟩
          · have H5 := Lib.hid h5
            have O5 := Lib.hid (O4.out.trans' ho5)
            have R5 := Lib.hid (Pl.run_go (c := .sy) R4.out hal)
            clear h5 ho5 hal
            go_wp2_with fail
            go_end0
            exact RunPost.good (by have := R5.out; rw [HP.out] at this; rw [createOps_eq]; simpa using this) (by have := H5.out; rwa [HP.out] at this) O5.out
          · have H5 := Lib.hid h5
            have O5 := Lib.hid (O4.out.trans' ho5)
            have HAL := Lib.hid hal
            clear h5 ho5 hal
            unfold died
            go_wp2_with fail
            exact ⟨rfl, RunPost.stop (r := []) (by rw [createOps_eq, ← HP.out]; simp) R4.out HAL.out H5.out O5.out⟩
        · have H4' := Lib.hid h4
          have O4 := Lib.hid (O3.out.trans' ho4)
          have HAL := Lib.hid hal
          clear h4 ho4 hal
          unfold died
          go_wp2_with fail
          exact ⟨rfl, RunPost.stop (r := [.sy]) (by rw [createOps_eq, ← HP.out]; simp) R2.out HAL.out H4'.out O4.out⟩
      · have H2 := Lib.hid h2
        have O2 := Lib.hid (HO.out.trans' ho2)
        have HAL := Lib.hid hal
        clear h2 ho2 hal
        unfold died
        go_wp2_with fail
        exact ⟨rfl, RunPost.stop (createOps_eq _ _) HR.out HAL.out H2.out O2.out⟩
end Go.Proofs.YtljmklohgpaopaaDoor

namespace Go.Proofs.YtljmklohgpaopaaDoor
open Go.RowKit

end Go.Proofs.YtljmklohgpaopaaDoor

namespace Go.Proofs.YtljmklohgpaopaaDoor
open Go.RowKit

def RefPost (w : World) (l : List UInt8) (more : Int) (g : Nat) (e : Ending) (w' : World) : Prop :=
  ∃ txt ok, e = .returned (.tuple #[.string (tstr txt), .bool ok]) ∧ (ok = true → Pl.attested l more g = some txt) ∧ (ok = false → Pl.attested l more g = none) ∧ Below w.heap.size w w'
theorem RefPost.no {w w' : World} {l : List UInt8} {more : Int} {g : Nat} (h : Pl.attested l more g = none) (hb : Below w.heap.size w w') : RefPost w l more g (.returned (.tuple #[.string ⟨#[]⟩, .bool false])) w' :=
  ⟨[], false, rfl, fun h => (by cases h), fun _ => h, hb⟩
end Go.Proofs.YtljmklohgpaopaaDoor

namespace Go.Proofs.YtljmklohgpaopaaDoor
open Go.RowKit

def AttPost (w : World) (l : List UInt8) (more : Int) (g : Nat) (e : Ending) (w' : World) : Prop :=
  ∃ v txt ok, e = .returned (.tuple #[v, .bool ok]) ∧ (ok = true → Pl.attested l more g = some txt ∧ w'.ownsRow w.heap.size 5 1 v txt.length (bv txt)) ∧ (ok = false → Pl.attested l more g = none) ∧ Below w.heap.size w w'
theorem AttPost.no {w w' : World} {l : List UInt8} {more : Int} {g : Nat} {v : Value} (h : Pl.attested l more g = none) (hb : Below w.heap.size w w') : AttPost w l more g (.returned (.tuple #[v, .bool false])) w' :=
  ⟨v, [], false, rfl, fun h => (by cases h), fun _ => h, hb⟩

end Go.Proofs.YtljmklohgpaopaaDoor

namespace Go.Proofs.YtljmklohgpaopaaDoor
open Go.RowKit

theorem results_err1 {fn : Func} {t : Tmp} {tmps : Array Value} {w : World} {g : Nat} {k : Int} {u : ByteArray} (h : fn.results = #[.cell t 27]) (ht : tmps.getD t undef = .pointer (some ⟨g, 0, none⟩)) (hB : Blk w g 27 [.int .i64 k, .string u, .bool true]) :
    (results fn tmps).run Tryd.prog w = .ok (errA k u) w := by
  have c0 := hB.cell 0
  have c1 := hB.cell 1
  have c2 := hB.cell 2
  simp only [List.getElem?_cons_succ, List.getElem?_cons_zero] at c0 c1 c2
  simp only [Array.getD_eq_getD_getElem?] at ht
  simp [results, h, ht, go_sem, c0, c1, c2, errA, asAddr]

theorem own_low {w : World} {base base' n size : Nat} {e : TypeId} {v : Value} {xs : List Value} (h : w.ownsRow base e size v n xs) (hb : base' ≤ base) : w.ownsRow base' e size v n xs := by
  refine ⟨h.1, ?_⟩
  rcases h.2 with hn | ⟨g, cap, cur, hv, hg, rest⟩
  · exact .inl hn
  · exact .inr ⟨g, cap, cur, hv, Nat.le_trans hb hg, rest⟩
end Go.Proofs.YtljmklohgpaopaaDoor

namespace Go.Proofs.YtljmklohgpaopaaDoor
open Go.RowKit

/-- The error of a kind (0: none). -/
def errK (k : Nat) : Value := if k = 0 then .nilIface else kindE k
theorem errK_err (w : World) (k : Nat) : ErrV w (errK k) k ⟨#[]⟩ := by
  unfold errK
  split
  · next h => subst h; exact ErrV.nil w
  · exact ErrV.kind w k
/-- How a body's end tells a kind. -/
def EndK (k : Nat) (e : Ending) : Prop := (k = 0 ∧ e = .returned (.tuple #[])) ∨ (k = 3 ∧ e = died 3) ∨ (k = 2 ∧ e = died 2)

theorem enters_create (W : World) (a b c : Value) : (callFunc 66 #[a, b, c]).run Tryd.prog W = .ok (.enter 66 #[a, b, c]) W := by simp [go_sem]

/-- The guarded call, by kinds. -/
theorem guardedK (K : FuncId) (caps : Array Value) (w : World) (Q : Nat → World → Prop) (hK : ∀ W, (callFunc K caps).run Tryd.prog W = .ok (.enter K caps) W)
    (h : Calls Tryd.prog K caps (w.alloc (.cells #[.nilIface] 70)) fun e w' => Blk w' w.heap.size 70 [.nilIface] ∧ ∃ k, EndK k e ∧ Q k w') :
    Calls Tryd.prog 59 #[.func (.func K) #[] caps] w fun e w'' => ∃ k w', (k = 0 ∨ k = 3 ∨ k = 2) ∧ Q k w' ∧ Only (· = w.heap.size) w' w'' ∧ e = .returned (errK k) := by
  refine (guarded_any K caps w (fun o w' => ∃ k, (k = 0 ∨ k = 3 ∨ k = 2) ∧ o.getD .nilIface = errK k ∧ Q k w') hK ?_).mono ?_
  · refine h.mono ?_
    rintro e w' ⟨hb, k, hk, hq⟩
    refine ⟨hb, ?_⟩
    rcases hk with ⟨rfl, rfl⟩ | ⟨rfl, rfl⟩ | ⟨rfl, rfl⟩
    · exact .inl ⟨rfl, 0, .inl rfl, rfl, hq⟩
    · exact .inr ⟨_, _, rfl, 3, .inr (.inl rfl), rfl, hq⟩
    · exact .inr ⟨_, _, rfl, 2, .inr (.inr rfl), rfl, hq⟩
  · rintro e w'' ⟨o, w', ⟨k, hk, ho, hq⟩, hon, rfl⟩
    exact ⟨k, w', hk, hq, hon, by rw [ho]⟩

theorem Ends.endK {ok : Bool} {e : Ending} (h : Ends ok 3 e) : EndK (if ok then 0 else 3) e := by
  rcases h with ⟨rfl, rfl⟩ | ⟨rfl, rfl⟩
  · exact .inl ⟨rfl, rfl⟩
  · exact .inr (.inl ⟨rfl, rfl⟩)

theorem createLog_eq (d : Pl.Dk) (first n : Nat) : Pl.createLog d first n = ((d.run (Pl.createOps first n)).1, if (d.run (Pl.createOps first n)).2 then 0 else 3) := by
  unfold Pl.createLog
  rcases d.run (Pl.createOps first n) with ⟨d', ok⟩
  cases ok <;> rfl

set_option maxHeartbeats 1000000 in
theorem wcreate_yes (g : Nat) (v : Value) (d : Pl.Dk) (rd : Int) (first n : Nat) (w : World) (h : DiskAt w g v d rd) (hp : placedB d.secs.length first n 4 = true) :
    Calls Tryd.prog 36 #[.pointer (some ⟨g, 0, none⟩), .int .i64 (first : Nat), .int .i64 (n : Nat)] w fun e w' => e = .returned (errK (Pl.createLog d first n).2) ∧ DiskAt w' g v (Pl.createLog d first n).1 rd ∧ Only (dF g v) w w' := by
  have hfit : 4 ≤ n ∧ first + n ≤ d.secs.length := by
    unfold placedB at hp
    simp only [Bool.and_eq_true, decide_eq_true_eq] at hp
    omega
  obtain ⟨w3, hw3⟩ : ∃ w3, ((w.alloc (.cells #[.pointer (some ⟨g, 0, none⟩)] 37)).alloc (.cells #[.int .i64 (first : Nat)] 3)).alloc (.cells #[.int .i64 (n : Nat)] 3) = w3 := ⟨_, rfl⟩
  have hb : Below w.heap.size w w3 := by rw [← hw3]; exact (((Below.refl _ _).alloc (Nat.le_refl _) _).alloc (by simp) _).alloc (by simp; omega) _
  have B1 : Blk w3 w.heap.size 37 [.pointer (some ⟨g, 0, none⟩)] := by rw [← hw3]; exact ((Blk.new _ _ _).alloc _).alloc _
  have B2 : Blk w3 (w.heap.size + 1) 3 [.int .i64 (first : Nat)] := by rw [← hw3]; exact (Blk.newAt _ _ _ _ (by simp)).alloc _
  have B3 : Blk w3 (w.heap.size + 1 + 1) 3 [.int .i64 (n : Nat)] := by rw [← hw3]; exact Blk.newAt _ _ _ _ (by simp)
  have h3 := h.below hb
  have cD := B1.cell 0
  have cF := B2.cell 0
  have cS := B3.cell 0
  simp only [List.getElem?_cons_zero] at cD cF cS
  have HP := Lib.hid (wplaced_any g v d rd first n 4 w3 h3)
  rw [hp] at HP
  have hbe : Below w3.heap.size w3 (w3.alloc (.cells #[.nilIface] 70)) := (Below.refl _ _).alloc (Nat.le_refl _) _
  have hG := guardedK 66 #[.pointer (some ⟨w.heap.size + 1 + 1, 0, none⟩), .pointer (some ⟨w.heap.size, 0, none⟩), .pointer (some ⟨w.heap.size + 1, 0, none⟩)] w3
    (fun k w' => k = (Pl.createLog d first n).2 ∧ DiskAt w' g v (Pl.createLog d first n).1 rd ∧ Only (dF g v) w w') (fun W => enters_create W _ _ _) (by
      refine (create1_any g _ _ _ first n v d rd _ (h3.below hbe) (B3.below hbe B3.lt) (B1.below hbe B1.lt) (B2.below hbe B2.lt) hfit.2 hfit.1).mono ?_
      rintro e w' ⟨he, hd, ho⟩
      have BE := Blk.new w3 70 [.nilIface]
      refine ⟨ho.blk BE ((h3.below hbe).off BE (by decide) (by decide)), _, he.endK, ?_⟩
      rw [createLog_eq]
      exact ⟨rfl, hd, ((Only.of_below hb (dF g v)).below hbe).trans' ho⟩)
  have HGG := Lib.hid hG
  have HB := Lib.hid hb
  have hlt := Lib.hid h.lt
  have hmf : ∀ (fn : Fn) (first cap : Array Value) (w : World), (Instr.makeFunc fn first cap).run Tryd.prog w = .ok (.func fn first cap) w := fun _ _ _ _ => rfl
  have hs3 := HB.out.size
  clear h hp h3 B1 B2 B3 hb hbe hG
  go_enter Tryd.func36, Tryd.ntmps36
  go_wp2_with fail
  refine HP.out.mono ?_
  rintro e w' ⟨rfl, rfl⟩
  clear hw3
  go_wp2_with fail
  refine HGG.out.mono ?_
  rintro e w'' ⟨k, w', hk, ⟨rfl, hd, ho⟩, hon, rfl⟩
  have HD := Lib.hid hd
  have HO := Lib.hid (ho.trans hon (fun x hx e => by omega))
  have HD2 := Lib.hid (HD.out.only hon (fun k hk e => by have := hlt.out k hk; omega))
  clear hd ho hon hk
  go_wp2_with fail
  go_ret
  exact ⟨rfl, HD2.out, HO.out⟩

/-- What a log's cells and its row are. -/
structure RowsAt (w : World) (va : Value) (vs : List Value) (ls : List (List UInt8)) : Prop where
  own : w.ownsRow 0 23 1 va ls.length vs
  each : ∀ (k : Nat) (v : Value) (l : List UInt8), vs[k]? = some v → ls[k]? = some l → w.ownsRow 0 5 1 v l.length (bv l)

set_option maxHeartbeats 1000000 in
theorem do_bad (gl g : Nat) (va : Value) (l : Pl.Lg) (f : Value) (w : World) (h : LogCells w gl g va l) (hb : l.bad = true) :
    Calls Tryd.prog 95 #[.pointer (some ⟨gl, 0, none⟩), f] w fun e w' => e = .returned (kindE 3) ∧ w = w' := by
  obtain ⟨a0, a1, a2, a3, a4, a5, a6, b0, b1, b2, b3, b4, b5, b6⟩ := facts7 h.blk
  rw [hb] at a6
  clear h hb
  go_enter Tryd.func95, Tryd.ntmps95
  go_wp2_with fail
  go_ret
  exact ⟨rfl, rfl⟩

set_option maxHeartbeats 1000000 in
/-- Something is done unless the log is bad: the body's end by Q; then the log is bad just if the disk failed. -/
theorem do_any (gl g : Nat) (va : Value) (l : Pl.Lg) (K : FuncId) (caps : Array Value) (w : World) (h : LogCells w gl g va l) (hb : l.bad = false) (Q : Nat → World → Prop) (hK : ∀ W, (callFunc K caps).run Tryd.prog W = .ok (.enter K caps) W)
    (hQ : ∀ k w', Q k w' → ∃ c0 c1 c2 c3 c4 c5, Blk w' gl 125 [c0, c1, c2, c3, c4, c5, .bool false])
    (hc : Calls Tryd.prog K caps (w.alloc (.cells #[.nilIface] 70)) fun e w' => Blk w' w.heap.size 70 [.nilIface] ∧ ∃ k, EndK k e ∧ Q k w') :
    Calls Tryd.prog 95 #[.pointer (some ⟨gl, 0, none⟩), .func (.func K) #[] caps] w fun e w'' => ∃ k w', Q k w' ∧ e = .returned (errK k) ∧ Only (fun b => b = w.heap.size ∨ b = gl) w' w'' ∧
      ∀ c0 c1 c2 c3 c4 c5 c6, Blk w' gl 125 [c0, c1, c2, c3, c4, c5, c6] → Blk w'' gl 125 [c0, c1, c2, c3, c4, c5, .bool (k == 3)] := by
  obtain ⟨a0, a1, a2, a3, a4, a5, a6, b0, b1, b2, b3, b4, b5, b6⟩ := facts7 h.blk
  rw [hb] at a6
  have hlt := Lib.hid h.blk.lt
  have HG := Lib.hid (guardedK K caps w Q hK hc)
  have HQ := Lib.hid hQ
  clear h hb hK hQ hc
  go_enter Tryd.func95, Tryd.ntmps95
  go_wp2_with fail
  refine HG.out.mono ?_
  rintro e w2 ⟨k, w1, hk, hq, hon, rfl⟩
  obtain ⟨c0, c1, c2, c3, c4, c5, hB⟩ := HQ.out k w1 hq
  have hB2 := hon.blk hB (fun e => by have := hlt.out; omega)
  have HQ1 := Lib.hid hq
  have HO := Lib.hid hon
  have HE := Lib.hid (errK_err w2 k)
  have f6 := hB2.frozen 6
  have d6 := hB2.cell 6
  simp only [List.getElem?_cons_zero, List.getElem?_cons_succ] at d6
  have HB1 := Lib.hid hB
  have HB2 := Lib.hid hB2
  obtain ⟨ev, hev⟩ : ∃ ev, errK k = ev := ⟨_, rfl⟩
  rw [hev] at HE ⊢
  have HEV := Lib.hid hev
  obtain ⟨q, hqk⟩ : ∃ q, ((k : Int) == 3) = q := ⟨_, rfl⟩
  have HQK := Lib.hid hqk
  clear hq hon hB hB2 hk hev hqk
  go_wp2_with fail
  refine (is_any ev k ⟨#[]⟩ 3 w2 HE.out (by omega)).mono ?_
  rintro e w' ⟨rfl, rfl⟩
  rw [HQK.out]
  go_wp2_with fail
  go_ret
  refine ⟨k, w1, HQ1.out, by rw [HEV.out]; rfl, ?_, ?_⟩
  · exact (HO.out.mono (fun _ _ h => .inl h)).setCell (p := ⟨gl, 6, none⟩) (.inl (.inr rfl)) _
  · intro x0 x1 x2 x3 x4 x5 x6 hx
    have hx2 := (HO.out.blk hx (fun e => by have := hlt.out; omega)).set_ 6 (.bool q)
    have hqq : (k == 3) = q := by
      rw [← HQK.out]
      by_cases h3 : k = 3
      · subst h3; rfl
      · rw [beq_eq_false_iff_ne.2 h3, beq_eq_false_iff_ne.2 (by omega)]
    rw [hqq]
    exact hx2
end Go.Proofs.YtljmklohgpaopaaDoor

namespace Go.Proofs.YtljmklohgpaopaaDoor
open Go.RowKit

/-- Block k holds cells of this element type. -/
def Typ (w : World) (k : Nat) (t : TypeId) : Prop := ∃ cs fz, w.heap[k]? = some (.cells cs t fz)
theorem Typ.uniq {w : World} {k : Nat} {t t' : TypeId} (h : Typ w k t) (h' : Typ w k t') : t = t' := by
  obtain ⟨cs, fz, h⟩ := h
  obtain ⟨cs', fz', h'⟩ := h'
  rw [h] at h'
  injection h' with h'
  injection h' with _ h'
theorem Blk.typ {w : World} {k : Nat} {t : TypeId} {cs : List Value} (h : Blk w k t cs) : Typ w k t := ⟨_, _, h⟩
theorem Blk.ne {w : World} {a b : Nat} {t t' : TypeId} {cs cs' : List Value} (h : Blk w a t cs) (h' : Blk w b t' cs') (ht : t ≠ t') : a ≠ b := by
  rintro rfl
  exact ht (h.uniqT h')
theorem own_typ {w : World} {base size n g : Nat} {e : TypeId} {v : Value} {xs : List Value} (h : w.ownsRow base e size v n xs) (hv : v.ownBlock = some g) : Typ w g e := by
  rcases h.2 with ⟨rfl, _⟩ | ⟨g', cap, cur, rfl, _, hg, _⟩
  · cases hv
  · have : g' = g := by simpa [Value.ownBlock] using hv
    subst this
    exact ⟨_, _, hg⟩
/-- The blocks of F are of these types. -/
def Kinds (F : Nat → Prop) (w : World) (ts : List TypeId) : Prop := ∀ k, F k → ∃ t, t ∈ ts ∧ Typ w k t
theorem DiskAt.kinds {w : World} {g : Nat} {v : Value} {d : Pl.Dk} {rd : Int} (h : DiskAt w g v d rd) : Kinds (dF g v) w [90, 92] := by
  obtain ⟨wr, sy, hg⟩ := h.blk
  rintro k (rfl | hk)
  · exact ⟨_, by simp, hg.typ⟩
  · exact ⟨_, by simp, own_typ h.own hk⟩
theorem Only.blk_ {F : Nat → Prop} {w w' : World} {k : Nat} {t : TypeId} {cs : List Value} {ts : List TypeId} (ho : Only F w w') (hF : Kinds F w ts) (h : Blk w k t cs) (ht : t ∉ ts) : Blk w' k t cs :=
  ho.blk h (fun hk => by obtain ⟨t', h1, h2⟩ := hF k hk; exact ht (h.typ.uniq h2 ▸ h1))
theorem Only.own_ {F : Nat → Prop} {w w' : World} {base n size : Nat} {e : TypeId} {v : Value} {xs : List Value} {ts : List TypeId} (ho : Only F w w') (hF : Kinds F w ts) (h : w.ownsRow base e size v n xs) (ht : e ∉ ts) : w'.ownsRow base e size v n xs :=
  ho.own h (fun g hg hk => by obtain ⟨t', h1, h2⟩ := hF g hk; exact ht ((own_typ h hg).uniq h2 ▸ h1))
theorem RowsAt.only {F : Nat → Prop} {w w' : World} {va : Value} {vs : List Value} {ls : List (List UInt8)} {ts : List TypeId} (h : RowsAt w va vs ls) (ho : Only F w w') (hF : Kinds F w ts) (h1 : 23 ∉ ts) (h2 : 5 ∉ ts) : RowsAt w' va vs ls :=
  ⟨ho.own_ hF h.own h1, fun k v l hv hl => ho.own_ hF (h.each k v l hv hl) h2⟩
/-- What a log's calls may write, but for its row. -/
def lF (gl g : Nat) (v : Value) (k : Nat) : Prop := dF g v k ∨ k = gl
theorem lF_kinds {w : World} {gl g : Nat} {v va : Value} {d : Pl.Dk} {rd : Int} {l : Pl.Lg} (h : DiskAt w g v d rd) (hl : LogCells w gl g va l) : Kinds (lF gl g v) w [90, 92, 125] := by
  rintro k (hk | rfl)
  · obtain ⟨t, h1, h2⟩ := h.kinds k hk
    refine ⟨t, ?_, h2⟩
    simp only [List.mem_cons, List.not_mem_nil, or_false] at h1 ⊢
    rcases h1 with rfl | rfl <;> simp
  · exact ⟨_, by simp, hl.blk.typ⟩
theorem LogCells.only {F : Nat → Prop} {w w' : World} {gl g : Nat} {va : Value} {l : Pl.Lg} {ts : List TypeId} (h : LogCells w gl g va l) (ho : Only F w w') (hF : Kinds F w ts) (h1 : 125 ∉ ts) : LogCells w' gl g va l := ⟨ho.blk_ hF h.blk h1, h.small⟩
theorem LogCells.below {w w' : World} {gl g : Nat} {va : Value} {l : Pl.Lg} (h : LogCells w gl g va l) (hb : Below w.heap.size w w') : LogCells w' gl g va l := ⟨h.blk.below hb h.blk.lt, h.small⟩

theorem enters_sync (W : World) (a : Value) : (callFunc 99 #[a]).run Tryd.prog W = .ok (.enter 99 #[a]) W := by simp [go_sem]
theorem enters_reset (W : World) (a : Value) : (callFunc 100 #[a]).run Tryd.prog W = .ok (.enter 100 #[a]) W := by simp [go_sem]

theorem facts1 {w : World} {g : Nat} {t : TypeId} {a0 : Value} (h : Blk w g t [a0]) : w.cell? ⟨g, 0, none⟩ = some a0 ∧ w.frozen? ⟨g, 0, none⟩ = false := ⟨h.cell 0, h.frozen 0⟩

set_option maxHeartbeats 1000000 in
theorem sync1_any (gl g bl : Nat) (v va : Value) (d : Pl.Dk) (rd : Int) (l : Pl.Lg) (w : World) (h : DiskAt w g v d rd) (hl : LogCells w gl g va l) (hB : Blk w bl 39 [.pointer (some ⟨gl, 0, none⟩)]) :
    Calls Tryd.prog 99 #[.pointer (some ⟨bl, 0, none⟩)] w (RunPost [.sy] g v d rd w) := by
  obtain ⟨a0, a1, a2, a3, a4, a5, a6, b0, b1, b2, b3, b4, b5, b6⟩ := facts7 hl.blk
  obtain ⟨cB, _⟩ := facts1 hB
  have H := Lib.hid (wsync_any g v d rd w h)
  clear h hl hB
  go_enter Tryd.func99, Tryd.ntmps99
  go_wp2_with fail
  refine H.out.mono ?_
  rintro e w2 ⟨⟨hal, rfl⟩ | ⟨hal, rfl⟩, h2, ho2⟩
  · have H2 := Lib.hid h2
    have O2 := Lib.hid ho2
    have R2 := Lib.hid (Pl.run_go (c := .sy) (Pl.Dk.run_nil d) hal)
    clear h2 ho2 hal
    go_wp2_with fail
    go_end0
    exact RunPost.good R2.out H2.out O2.out
  · have H2 := Lib.hid h2
    have O2 := Lib.hid ho2
    have HAL := Lib.hid hal
    clear h2 ho2 hal
    unfold died
    go_wp2_with fail
    exact ⟨rfl, RunPost.stop (a := []) (r := []) rfl (Pl.Dk.run_nil d) HAL.out H2.out O2.out⟩

/-- What a log's call leaves: the plain one's answer. -/
def LogPost (r : Pl.Lg × Pl.Dk × Nat) (gl g : Nat) (v va : Value) (rd : Int) (w : World) (e : Ending) (w' : World) : Prop :=
  e = .returned (errK r.2.2) ∧ DiskAt w' g v r.2.1 rd ∧ LogCells w' gl g va r.1 ∧ Only (lF gl g v) w w'

theorem sync_bad {l : Pl.Lg} (d : Pl.Dk) (h : l.bad = true) : l.sync d = (l, d, 3) := by unfold Pl.Lg.sync; rw [h, if_pos rfl]
theorem sync_eq {l : Pl.Lg} (d : Pl.Dk) (h : l.bad = false) : l.sync d = ({ l with bad := !(d.run [.sy]).2 }, (d.run [.sy]).1, if (d.run [.sy]).2 then 0 else 3) := by
  unfold Pl.Lg.sync
  rw [h, if_neg (by decide)]
  rcases d.run [.sy] with ⟨d', ok⟩
  cases ok
  · rfl
  · cases l; simp at h; subst h; rfl

set_option maxHeartbeats 1000000 in
theorem wlSync_any (gl g : Nat) (v va : Value) (d : Pl.Dk) (rd : Int) (l : Pl.Lg) (w : World) (h : DiskAt w g v d rd) (hl : LogCells w gl g va l) :
    Calls Tryd.prog 71 #[.pointer (some ⟨gl, 0, none⟩)] w (LogPost (l.sync d) gl g v va rd w) := by
  have hb1 : Below w.heap.size w (w.alloc (.cells #[.pointer (some ⟨gl, 0, none⟩)] 39)) := (Below.refl _ _).alloc (Nat.le_refl _) _
  have hmf : ∀ (fn : Fn) (first cap : Array Value) (w : World), (Instr.makeFunc fn first cap).run Tryd.prog w = .ok (.func fn first cap) w := fun _ _ _ _ => rfl
  have H := Lib.hid h
  have HL := Lib.hid hl
  have HB1 := Lib.hid hb1
  cases hbad : l.bad
  · obtain ⟨w1, hw1⟩ : ∃ w1, w.alloc (.cells #[.pointer (some ⟨gl, 0, none⟩)] 39) = w1 := ⟨_, rfl⟩
    rw [hw1] at hb1
    have B0 : Blk w1 w.heap.size 39 [.pointer (some ⟨gl, 0, none⟩)] := by rw [← hw1]; exact Blk.new _ _ _
    have hbe : Below w1.heap.size w1 (w1.alloc (.cells #[.nilIface] 70)) := (Below.refl _ _).alloc (Nat.le_refl _) _
    have h1 := h.below hb1
    have hl1 := hl.below hb1
    have HD := Lib.hid (do_any gl g va l 99 #[.pointer (some ⟨w.heap.size, 0, none⟩)] w1 hl1 hbad
      (fun k w' => k = (l.sync d).2.2 ∧ DiskAt w' g v (l.sync d).2.1 rd ∧ LogCells w' gl g va l ∧ Only (dF g v) w w') (fun W => enters_sync W _)
      (fun k w' hq => ⟨_, _, _, _, _, _, by have := hq.2.2.1.blk; unfold lgCells at this; rw [hbad] at this; exact this⟩) (by
        refine (sync1_any gl g _ v va d rd l _ (h1.below hbe) (hl1.below hbe) (B0.below hbe B0.lt)).mono ?_
        rintro e w' ⟨he, hd, ho⟩
        have BE := Blk.new w1 70 [.nilIface]
        refine ⟨ho.blk_ (h1.below hbe).kinds BE (by decide), _, he.endK, ?_⟩
        rw [sync_eq d hbad]
        exact ⟨rfl, hd, (hl1.below hbe).only ho (h1.below hbe).kinds (by decide), ((Only.of_below hb1 (dF g v)).below hbe).trans' ho⟩))
    have hsz1 := hb1.size
    have HBD := Lib.hid hbad
    obtain ⟨cB, _⟩ := facts1 B0
    clear h hl h1 hl1 hb1 hbe B0 hbad
    go_enter Tryd.func71, Tryd.ntmps71
    go_wp2_with fail
    refine HD.out.mono ?_
    rintro e w3 ⟨k, w2, ⟨rfl, hd2, hl2, ho2⟩, rfl, hon, hblk⟩
    have hne : ∀ k, lF gl g v k → k < w.heap.size := by
      rintro k (hk | rfl)
      · exact H.out.lt k hk
      · exact HL.out.blk.lt
    have hgl : ¬ dF g v gl := fun hk => by
      obtain ⟨t, h1, h2⟩ := H.out.kinds gl hk
      have := HL.out.blk.typ.uniq h2
      subst this
      revert h1
      decide
    have hd3 := hd2.only hon (fun k hk e => by
      rcases e with e | e
      · have := hne k (.inl hk); omega
      · exact hgl (e ▸ hk))
    have hl3 : LogCells w3 gl g va (l.sync d).1 := by
      have := hblk _ _ _ _ _ _ _ hl2.blk
      rw [sync_eq d HBD.out] at this ⊢
      refine ⟨?_, HL.out.small⟩
      unfold lgCells
      cases hok : (d.run [.sy]).2
      · rw [hok] at this; exact this
      · rw [hok] at this; exact this
    have ho3 : Only (lF gl g v) w w3 := (ho2.mono (fun _ _ h => .inl h)).trans hon (fun x hx e => by
      rcases e with e | e
      · omega
      · exact .inr e)
    have HD3 := Lib.hid hd3
    have HL3 := Lib.hid hl3
    have HO3 := Lib.hid ho3
    clear hd2 hl2 ho2 hon hblk hne hgl hd3 hl3 ho3
    go_wp2_with fail
    go_ret
    exact ⟨rfl, HD3.out, HL3.out, HO3.out⟩
  · have HDB := Lib.hid (do_bad gl g va l (.func (.func 99) #[] #[.pointer (some ⟨w.heap.size, 0, none⟩)]) _ (hl.below hb1) hbad)
    have HBD := Lib.hid hbad
    clear h hl hb1 hbad
    go_enter Tryd.func71, Tryd.ntmps71
    go_wp2_with fail
    refine HDB.out.mono ?_
    rintro e w' ⟨rfl, rfl⟩
    go_wp2_with fail
    go_ret
    rw [LogPost, sync_bad d HBD.out]
    exact ⟨rfl, H.out.below HB1.out, HL.out.below HB1.out, Only.of_below HB1.out _⟩
end Go.Proofs.YtljmklohgpaopaaDoor
