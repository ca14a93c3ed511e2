/- The walks of plain's Path and Climb. -/
import Derived.Test.YtdiainkokgpldaaDoorTreeY
namespace Go.Proofs.YtdiainkokgpldaaDoor
open Go.RowKit

theorem pstr_nil : pstr [] = ⟨#[]⟩ := rfl
/-- The result in plain data stands in a cell of its own. -/
theorem results_err2 {fn : Func} {s t : Tmp} {tmps : Array Value} {w : World} {g : Nat} {v : Value} {k : Int} {u : ByteArray} (h : fn.results = #[.tmp s, .cell t 24]) (hv : tmps.getD s undef = v) (ht : tmps.getD t undef = .pointer (some ⟨g, 0, none⟩)) (hB : Blk w g 24 [.int .i64 k, .string u, .bool true]) :
    (results fn tmps).run Tryd.prog w = .ok (.tuple #[v, errA k u]) w := by
  have c0 := hB.cell 0
  have c1 := hB.cell 1
  have c2 := hB.cell 2
  simp only [List.getElem?_cons_succ, List.getElem?_cons_zero] at c0 c1 c2
  simp only [Array.getD_eq_getD_getElem?] at ht hv
  simp [results, h, ht, hv, go_sem, c0, c1, c2, errA, asAddr]

theorem facts3 {w : World} {g : Nat} {t : TypeId} {a0 a1 a2 : Value} (h : Blk w g t [a0, a1, a2]) :
    w.cell? ⟨g, 0, none⟩ = some a0 ∧ w.cell? ⟨g, 1, none⟩ = some a1 ∧ w.cell? ⟨g, 2, none⟩ = some a2 ∧
    w.frozen? ⟨g, 0, none⟩ = false ∧ w.frozen? ⟨g, 1, none⟩ = false ∧ w.frozen? ⟨g, 2, none⟩ = false :=
  ⟨h.cell 0, h.cell 1, h.cell 2, h.frozen 0, h.frozen 1, h.frozen 2⟩
theorem Blk.set3 {w : World} {g : Nat} {t : TypeId} {a0 a1 a2 : Value} (h : Blk w g t [a0, a1, a2]) (x0 x1 x2 : Value) :
    Blk (((w.setCell ⟨g, 0, none⟩ x0).setCell ⟨g, 1, none⟩ x1).setCell ⟨g, 2, none⟩ x2) g t [x0, x1, x2] :=
  ((h.set_ 0 x0).set_ 1 x1).set_ 2 x2
theorem below_set3 {B : Nat} {a w : World} (h : Below B a w) {g : Nat} (hg : B ≤ g) (x0 x1 x2 : Value) :
    Below B a (((w.setCell ⟨g, 0, none⟩ x0).setCell ⟨g, 1, none⟩ x1).setCell ⟨g, 2, none⟩ x2) :=
  ((h.setCell hg x0).setCell hg x1).setCell hg x2
def err0 : Obj := .cells #[.int .i64 0, .string ⟨#[]⟩, .bool false] 24

/-- The four cells of hash k in a row of hashes. -/
theorem Src.hashAt {w : World} {b off k x : Nat} {ps : List Nat} (h : Src w (some ⟨b, off, none⟩) (hcs ps)) (hk : ps[k]? = some x) :
    w.cell? ⟨b, off + k * 4, none⟩ = some (.int .u8 ((x : Int) / 16777216)) ∧ w.cell? ⟨b, off + k * 4 + 1, none⟩ = some (.int .u8 ((x : Int) / 65536 % 256)) ∧
    w.cell? ⟨b, off + k * 4 + 2, none⟩ = some (.int .u8 ((x : Int) / 256 % 256)) ∧ w.cell? ⟨b, off + k * 4 + 3, none⟩ = some (.int .u8 ((x : Int) % 256)) := by
  have hlt : k < ps.length := by
    rcases Nat.lt_or_ge k ps.length with h' | h'
    · exact h'
    · rw [List.getElem?_eq_none h'] at hk; cases hk
  have hx : ps[k] = x := by rw [List.getElem?_eq_getElem hlt] at hk; exact Option.some.inj hk
  have h2 : Src w (some ⟨b, off, none⟩) (hcs (ps.take k ++ [x])) := by
    have := h.take ((k + 1) * 4)
    rw [← hx, ← List.take_succ_eq_append_getElem hlt]
    have e : hcs ps = hcs (ps.take (k + 1)) ++ hcs (ps.drop (k + 1)) := by rw [← hcs_append, List.take_append_drop]
    rw [e, List.take_left' (by rw [hcs_len, List.length_take, Nat.min_eq_left (by omega)])] at this
    exact this
  exact h2.last4 (by rw [List.length_take]; omega)

theorem text_h (n : Nat) (hn : n < 4294967296) (w : World) :
    Calls Tryd.prog 39 #[hashVal n] w fun e w' => e = .returned (.string (hstr n)) ∧ Below w.heap.size w w' := text_any n hn w

set_option maxHeartbeats 2000000 in
set_option maxRecDepth 100000 in
theorem plainPath_of (A : Option Addr) (n cap : Nat) (i : Int) (ps : List Nat) (k : Nat) (w : World) (hG : GE w) (hk : k ≤ 21) (hps : ps.length ≤ 17592186044416) (hlt : ∀ x ∈ ps, x < 4294967296)
    (hP : Calls Tryd.prog 41 #[.slice A n cap, .int .i64 i] (w.alloc err0) fun e w' => ∃ P cp v, e = .returned (.tuple #[.slice P ps.length cp, v]) ∧ Src w' P (hcs ps) ∧ ErrV w' v k ⟨#[]⟩ ∧ Below (w.alloc err0).heap.size (w.alloc err0) w') :
    Calls Tryd.prog 12 #[.slice A n cap, .int .i64 i] w fun e w' => e = .returned (.tuple #[.string (pstr ps), errA k ⟨#[]⟩]) ∧ Below w.heap.size w w' := by
  have hB0 := Lib.hid (Blk.new w 24 [.int .i64 0, .string ⟨#[]⟩, .bool false])
  have HP := Lib.hid hP
  clear hP
  go_enter Tryd.func12, Tryd.ntmps12
  go_wp2_with fail
  refine HP.out.mono ?_
  rintro e w1 ⟨P, cp, v, rfl, hsrc, herr, hb1⟩
  have h1 : Below w.heap.size w w1 := ((Below.refl _ _).alloc (Nat.le_refl _) _).trans (hb1.mono (by simp))
  have hs1 := h1.size
  have HB1 := Lib.hid (hB0.out.below hb1 (by simp [err0]))
  have H1 := Lib.hid h1
  clear h1 hb1
  go_wp2_with fail
  go_loopw [8, 10, 19] (fun s p i wr => ∃ j : Nat, j ≤ ps.length ∧ i = .int .i64 (j : Int) ∧ s = .string (pstr (ps.take j)) ∧ Below w1.heap.size w1 wr) (fun _ _ i _ => ps.length - (intOf i).toNat)
  case atStart => exact ⟨0, by omega, rfl, rfl, Below.refl _ _⟩
  case round =>
    obtain ⟨j, hj, rfl, rfl, hbel⟩ := hrel
    by_cases hjl : j < ps.length
    · obtain ⟨x, hx⟩ : ∃ x, ps[j] = x := ⟨_, rfl⟩
      have hxg : ps[j]? = some x := by rw [List.getElem?_eq_getElem hjl, hx]
      have hxlt := hlt x (List.mem_of_getElem? hxg)
      obtain ⟨b, off, rfl⟩ := hsrc.addr (by rw [hcs_len]; omega)
      obtain ⟨c0, c1, c2, c3⟩ := (hsrc.below hbel).hashAt hxg
      have hcat : ∀ w, (Op.stringOp .add (pstr (ps.take j)) (hstr x)).run Tryd.prog w = .ok (.string (pstr (ps.take (j + 1)))) w := by
        intro w
        rw [run_string_add_sum w _ _ (by rw [pstr_size, hstr_size, List.length_take]; omega), pstr_snoc, List.take_succ_eq_append_getElem hjl, hx]
      have HX := Lib.hid hxg
      clear hx hxg
      go_wp2_with fail
      refine (text_h x hxlt _).mono ?_
      rintro e w2 ⟨rfl, hb2⟩
      have h2 := (hbel.alloc hbel.size _).trans (hb2.mono (size_alloc_le hbel.size _))
      clear hb2 c0 c1 c2 c3
      go_wp2_with fail
      exact ⟨⟨j + 1, by omega, by go_num, rfl, h2⟩, by simp [intOf]; omega⟩
    · have hjj : j = ps.length := by omega
      rw [show ps.take j = ps by rw [hjj, List.take_length]]
      clear hjj
      go_wp2_with fail
      refine (told_any v k ⟨#[]⟩ _ (hG.below (H1.out.trans (hbel.mono hs1))) (herr.below hbel) hk).mono ?_
      rintro e w3 ⟨rfl, hb3⟩
      have h3 := hbel.trans (hb3.mono hbel.size)
      have hB3 := HB1.out.below h3 HB1.out.lt
      obtain ⟨c0, c1, c2, f0, f1, f2⟩ := facts3 hB3
      have HB3 := Lib.hid hB3
      have H3 := Lib.hid (H1.out.trans (h3.mono hs1))
      clear hB3 h3 hb3 hbel
      go_wp2_with fail
      refine bodyPost_ret (v := .tuple #[.string (pstr ps), errA k ⟨#[]⟩]) (results_err2 rfl rfl rfl (HB3.out.set3 _ _ _)) rfl ⟨rfl, ?_⟩
      exact below_set3 H3.out (Nat.le_refl _) _ _ _

namespace Pl
/-- The numbers of a text's groups of four bytes. -/
def groups (l : List UInt8) : List Nat :=
  match l with
  | a :: b :: c :: d :: r => num [a, b, c, d] :: groups r
  | _ => []
theorem groups_short (l : List UInt8) (h : l.length < 4) : groups l = [] := by
  match l, h with
  | [], _ => simp [groups]
  | [_], _ => simp [groups]
  | [_, _], _ => simp [groups]
  | [_, _, _], _ => simp [groups]
theorem groups_long (l : List UInt8) (h : 4 ≤ l.length) : groups l = hashOf l :: groups (l.drop 4) := by
  match l, h with
  | a :: b :: c :: d :: r, _ => rfl
theorem groups_length (l : List UInt8) : (groups l).length = l.length / 4 := by
  match l with
  | [] => simp [groups, ptext]
  | [_] => simp [groups, ptext]
  | [_, _] => simp [groups, ptext]
  | [_, _, _] => simp [groups, ptext]
  | a :: b :: c :: d :: r =>
    rw [groups_long _ (by simp), List.length_cons, groups_length]
    simp
    omega
theorem groups_lt (l : List UInt8) : ∀ x ∈ groups l, x < 4294967296 := by
  match l with
  | [] => simp [groups]
  | [_] => simp [groups]
  | [_, _] => simp [groups]
  | [_, _, _] => simp [groups]
  | a :: b :: c :: d :: r =>
    rw [groups_long _ (by simp)]
    intro x hx
    rcases List.mem_cons.1 hx with h | h
    · rw [h]; exact hashOf_lt _
    · exact groups_lt _ x h
theorem groups_text (l : List UInt8) : ptext (groups l) = l.take (l.length / 4 * 4) := by
  match l with
  | [] => simp [groups, ptext]
  | [_] => simp [groups, ptext]
  | [_, _] => simp [groups, ptext]
  | [_, _, _] => simp [groups, ptext]
  | a :: b :: c :: d :: r =>
    have := groups_text r
    rw [groups_long _ (by simp), show ∀ (x : Nat) (y : List Nat), x :: y = [x] ++ y from fun _ _ => rfl, ptext_append, ptext_one, be_hashOf]
    rw [show List.drop 4 (a :: b :: c :: d :: r) = r from rfl, this]
    rw [show (a :: b :: c :: d :: r).length / 4 * 4 = r.length / 4 * 4 + 4 by simp; omega]
    rfl
end Pl

theorem hash_room2 {n m : Nat} (h : n + m ≤ 35184372088832) : ∀ old, old < n + m → Builtin.nextslicecap (n + m) old * 4 ≤ 281474976710656 := by
  intro old ho
  have := nextslicecap_le54 ho
  omega

set_option maxHeartbeats 2000000 in
set_option maxRecDepth 100000 in
theorem plainClimb_of (A : Option Addr) (n cap : Nat) (i m : Int) (L : List UInt8) (c k : Nat) (w : World) (hG : GE w) (hk : k ≤ 21) (hL : L.length ≤ 140737488355328) (hc' : c < 4294967296)
    (hC : ∀ W P cp, Below w.heap.size w W → Src W P (hcs (Pl.groups L)) → (Pl.groups L).length ≤ cp → Calls Tryd.prog 46 #[.slice A n cap, .int .i64 i, .int .i64 m, .slice P (Pl.groups L).length cp] W fun e w' => ∃ v, e = .returned (.tuple #[hashVal c, v]) ∧ ErrV w' v k ⟨#[]⟩ ∧ Below W.heap.size W w') :
    Calls Tryd.prog 18 #[.slice A n cap, .int .i64 i, .int .i64 m, .string (tstr L)] w fun e w' => e = .returned (.tuple #[.string (hstr c), errA k ⟨#[]⟩]) ∧ Below w.heap.size w w' := by
  have hB0 := Lib.hid (Blk.new w 24 [.int .i64 0, .string ⟨#[]⟩, .bool false])
  have HC := Lib.hid hC
  obtain ⟨gs, hgs⟩ : ∃ gs, Pl.groups L = gs := ⟨_, rfl⟩
  have hgl := Pl.groups_length L
  rw [hgs] at hgl
  have HGS := Lib.hid hgs
  obtain ⟨i0, hi0, hz0, hz1, hz2⟩ := info_parts Tryd.infoHash
  clear hC hgs
  go_enter Tryd.func18, Tryd.ntmps18
  go_wp2_with fail
  go_loopw [3, 10] (fun s v wr => ∃ ds rest, s = .string (tstr rest) ∧ rest.length ≤ L.length ∧ ds.length + rest.length / 4 ≤ L.length / 4 ∧ Hid (ds ++ Pl.groups rest = gs) ∧ wr.ownsRow (w.alloc err0).heap.size 89 4 v ds.length (hcs ds) ∧ Below (w.alloc err0).heap.size (w.alloc err0) wr) (fun s _ _ => match s with | .string b => b.size | _ => 0)
  case atStart => exact ⟨[], L, rfl, by omega, by simp, HGS.out, World.ownsRow_nil _ _ _ _, Below.refl _ _⟩
  case round =>
    obtain ⟨ds, rest, rfl, hrl, hdl, HD, hown, hbel⟩ := hrel
    by_cases h4 : 4 ≤ rest.length
    · have hsz : (tstr rest).size = rest.length := tstr_size rest
      have hq0 : (4 : Int) ≤ ((tstr rest).size : Int) := by omega
      have hsl : ∀ w, (Instr.slice 9 (.string (tstr rest)) (some (.int .i64 4)) none none).run Tryd.prog w = .ok (.string (tstr (rest.drop 4))) w := fun w => run_str_drop w rest 4 4 rfl h4
      have hsz2 : (tstr (rest.drop 4)).size = rest.length - 4 := by rw [tstr_size, List.length_drop]
      obtain ⟨st, hst⟩ : ∃ st, tstr rest = st := ⟨_, rfl⟩
      have hh := hash_any st wr
      rw [show st.data.toList = rest by rw [← hst]; rfl] at hh
      rw [hst] at hsz hq0 hsl ⊢
      obtain ⟨x, hx⟩ : ∃ x, Pl.hashOf rest = x := ⟨_, rfl⟩
      have HD2 := HD.out
      rw [Pl.groups_long rest h4, hx] at HD2
      have HD3 : Hid ((ds ++ [x]) ++ Pl.groups (rest.drop 4) = gs) := by rw [Hid, ← HD2]; simp
      have hroom := Lib.hid (hash_room2 (n := ds.length) (m := 1) (by omega))
      have h63 := Lib.hid (show ds.length + 1 ≤ maxLen by simp only [maxLen]; omega)
      have hbase := hbel.size
      have HH := Lib.hid hh
      have HDL : Hid ((rest.drop 4).length ≤ L.length ∧ (ds ++ [x]).length + (rest.drop 4).length / 4 ≤ L.length / 4) := by
        rw [Hid, List.length_drop, List.length_append]
        simp
        omega
      have HSZ := Lib.hid hsz
      have HX := Lib.hid hx
      clear HD2 HD hh hst hx hsz hdl hrl
      go_wp2_with fail
      refine HH.out.mono ?_
      rintro e w2 ⟨rfl, hb2⟩
      rw [HX.out]
      have hown2 := Lib.hid ((own_below hown hb2).alloc (.cells (hc x).toArray 89))
      have hsrc2 := Lib.hid (Src.of_blk (Blk.new w2 89 (hc x)))
      have hbel2 := hbel.trans (hb2.mono hbase)
      have hbase2 := size_alloc_le hbel2.size (.cells (hc x).toArray 89)
      clear hown hbel hb2
      unfold hashVal
      go_wp2_with (at_builtin
                   refine wpList_append_src _ rfl (.tmp 18) (.tmp 21) 91 rfl (w.alloc err0).heap.size 89 i0 (hashVal 0) 4 4 Tryd.underlying91 hi0 hz0 hz1 hz2 rfl (by decide) u10 ds.length (hcs ds) rfl hown2.out (some ⟨w2.heap.size, 0, none⟩) 1 1 (hc x) rfl rfl hsrc2.out (hc_one x) h63.out hroom.out hbase2 ?_
                   intro v3 w3 hown3 hgrow3 hat3)
      refine ⟨⟨ds ++ [x], rest.drop 4, rfl, HDL.out.1, HDL.out.2, HD3, ?_, ?_⟩, ?_⟩
      · rw [List.length_append, hcs_append, hcs_one]; exact hown3
      · exact (hbel2.alloc hbel2.size _).grown hgrow3 hbase2 (fun g hg => (hown2.out.lt g hg).1)
      · show (tstr (rest.drop 4)).size < st.size
        have := HSZ.out
        omega
    · have hgr : Pl.groups rest = [] := Pl.groups_short rest (by omega)
      have hdg : ds = Pl.groups L := by rw [HGS.out, ← HD.out, hgr]; simp
      subst hdg
      have hsz : (tstr rest).size = rest.length := tstr_size rest
      have hq0 : ¬ (4 : Int) ≤ ((tstr rest).size : Int) := by omega
      obtain ⟨st, hst⟩ : ∃ st, tstr rest = st := ⟨_, rfl⟩
      rw [hst] at hsz hq0 ⊢
      obtain ⟨P, cp, rfl, hcp, hsrc, _⟩ := own_src hown
      have hw0 : Below w.heap.size w wr := ((Below.refl _ _).alloc (Nat.le_refl _) _).trans (hbel.mono (by simp))
      have HB1 := Lib.hid (hB0.out.below hbel (by simp [err0]))
      have HCC := Lib.hid (HC.out wr P cp hw0 hsrc hcp)
      have H1 := Lib.hid hw0
      have hs1 := hw0.size
      clear hst hsz hgr hrl hdl HD hown hbel hw0 hsrc HC
      go_wp2_with fail
      refine HCC.out.mono ?_
      rintro e w2 ⟨v, rfl, herr, hb2⟩
      unfold hashVal
      have h2 := H1.out.trans (hb2.mono hs1)
      have HB2 := Lib.hid (HB1.out.below hb2 HB1.out.lt)
      have H2 := Lib.hid h2
      have hs2 := h2.size
      clear hb2 h2
      go_wp2_with fail
      refine (text_h c hc' _).mono ?_
      rintro e w3 ⟨rfl, hb3⟩
      have h3 := H2.out.trans (((Below.refl w2.heap.size w2).alloc (Nat.le_refl _) _).trans (hb3.mono (by simp)) |>.mono hs2)
      have HB3 := Lib.hid ((HB2.out.alloc _).below hb3 (Nat.lt_of_lt_of_le HB2.out.lt (by simp)))
      have herr3 := (herr.below (((Below.refl w2.heap.size w2).alloc (Nat.le_refl _) _).trans (hb3.mono (by simp))))
      have hs3 := h3.size
      have H3 := Lib.hid h3
      clear hb3 h3
      go_wp2_with fail
      refine (told_any v k ⟨#[]⟩ _ (hG.below H3.out) herr3 hk).mono ?_
      rintro e w4 ⟨rfl, hb4⟩
      have hB4 := HB3.out.below hb4 HB3.out.lt
      obtain ⟨c0, c1, c2, f0, f1, f2⟩ := facts3 hB4
      have HB4 := Lib.hid hB4
      have H4 := Lib.hid (H3.out.trans (hb4.mono hs3))
      clear hB4 hb4
      go_wp2_with fail
      refine bodyPost_ret (v := .tuple #[.string (hstr c), errA k ⟨#[]⟩]) (results_err2 rfl rfl rfl (HB4.out.set3 _ _ _)) rfl ⟨rfl, ?_⟩
      exact below_set3 H4.out (Nat.le_refl _) _ _ _
end Go.Proofs.YtdiainkokgpldaaDoor
