/- The walk of the log's Append. The walk of the log's scan. -/
import Derived.Test.YtljmklohgpaopaaDoorMgLogged7
import Derived.Lib.AppendStr
set_option linter.unusedVariables false
set_option linter.unusedSimpArgs false

namespace Go.Proofs.YtljmklohgpaopaaDoor
open Go.RowKit

theorem enters_append (W : World) (a b c : Value) : (callFunc 96 #[a, b, c]).run Tryd.prog W = .ok (.enter 96 #[a, b, c]) W := by simp [go_sem]
theorem append_size {l : Pl.Lg} (d : Pl.Dk) {p : List UInt8} (h : p.length < 1 ∨ 2000 < p.length) : l.append d p = (l, d, 4) := by unfold Pl.Lg.append; rw [if_pos h]
theorem append_full {l : Pl.Lg} (d : Pl.Dk) {p : List UInt8} (h : ¬ (p.length < 1 ∨ 2000 < p.length)) (h2 : l.data < l.next + Pl.chunks p.length) : l.append d p = (l, d, 5) := by unfold Pl.Lg.append; rw [if_neg h, if_pos h2]
theorem append_bad {l : Pl.Lg} (d : Pl.Dk) {p : List UInt8} (h : ¬ (p.length < 1 ∨ 2000 < p.length)) (h2 : ¬ l.data < l.next + Pl.chunks p.length) (hb : l.bad = true) : l.append d p = (l, d, 3) := by unfold Pl.Lg.append; rw [if_neg h, if_neg h2, hb, if_pos rfl]
theorem append_eq {l : Pl.Lg} (d : Pl.Dk) {p : List UInt8} (h : ¬ (p.length < 1 ∨ 2000 < p.length)) (h2 : ¬ l.data < l.next + Pl.chunks p.length) (hb : l.bad = false) :
    l.append d p = (if (d.run (Pl.appendOps l p)).2 then (Pl.appLg l p, (d.run (Pl.appendOps l p)).1, 0) else ({ l with bad := true }, (d.run (Pl.appendOps l p)).1, 3)) := by
  unfold Pl.Lg.append
  rw [if_neg h, if_neg h2, hb, if_neg (by decide)]
  show (match d.run (Pl.appendOps l p) with | (d', true) => _ | (d', false) => _) = _
  rcases d.run (Pl.appendOps l p) with ⟨d', ok⟩
  cases ok
  · rfl
  · cases l
    simp at hb
    subst hb
    rfl

set_option maxHeartbeats 2000000 in
set_option maxRecDepth 100000 in
theorem wlAppend_any (gl g : Nat) (v va : Value) (vs : List Value) (d : Pl.Dk) (rd : Int) (l : Pl.Lg) (p : List UInt8) (A : Option Addr) (cap : Nat) (w : World) (h : LogSt w gl g v va vs d rd l)
    (hb : BytesAt w A p) (hA : ∀ q, A = some q → q.block < w.heap.size ∧ ¬ lFa gl g v va q.block) (hcap : p.length ≤ cap) (hpl : p.length ≤ 140737488351232) (hfit : l.first + 2 + l.data ≤ d.secs.length) (hrows : l.all.length ≤ 5000) :
    Calls Tryd.prog 70 #[.pointer (some ⟨gl, 0, none⟩), .slice A p.length cap] w (LogOut (l.append d p) gl g v va rd w) := by
  obtain ⟨w1, hw1⟩ : ∃ w1, (w.alloc (.cells #[.pointer (some ⟨gl, 0, none⟩)] 39)).alloc (.cells #[.slice A p.length cap] 23) = w1 := ⟨_, rfl⟩
  have hb1 : Below w.heap.size w w1 := by rw [← hw1]; exact ((Below.refl _ _).alloc (Nat.le_refl _) _).alloc (by simp) _
  have B1 : Blk w1 w.heap.size 39 [.pointer (some ⟨gl, 0, none⟩)] := by rw [← hw1]; exact (Blk.new _ _ _).alloc _
  have B2 : Blk w1 (w.heap.size + 1) 23 [.slice A p.length cap] := by rw [← hw1]; exact Blk.newAt _ _ _ _ (by simp)
  have hs1 : w1.heap.size = w.heap.size + 1 + 1 := by rw [← hw1]; simp
  have HST := Lib.hid h
  have HB1 := Lib.hid hb1
  have hsm := h.cells.small
  obtain ⟨c1, _⟩ := facts1 B1
  obtain ⟨c2, _⟩ := facts1 B2
  have HBB1 := Lib.hid B1
  have HBB2 := Lib.hid B2
  have HA := Lib.hid hA
  have HBY := Lib.hid hb
  clear h hb1 B1 B2 hA hb
  by_cases hz1 : p.length < 1
  · have q1 : (p.length : Int) < 1 := by omega
    have HZ := Lib.hid hz1
    clear hz1
    go_enter Tryd.func70, Tryd.ntmps70
    go_wp2_with fail
    go_ret
    exact LogOut.same (k := 4) HST.out HB1.out (append_size d (.inl HZ.out))
  · have q1 : ¬ (p.length : Int) < 1 := by omega
    have q1d : decide ((p.length : Int) < 1) = false := decide_eq_false q1
    by_cases hz2 : 2000 < p.length
    · have q2 : (2000 : Int) < (p.length : Int) := by omega
      have HZ := Lib.hid hz2
      clear hz2
      go_enter Tryd.func70, Tryd.ntmps70
      go_wp2_with fail
      go_ret
      exact LogOut.same (k := 4) HST.out HB1.out (append_size d (.inr HZ.out))
    · have q2 : ¬ (2000 : Int) < (p.length : Int) := by omega
      have q2d : decide ((2000 : Int) < (p.length : Int)) = false := decide_eq_false q2
      have hzz : ¬ (p.length < 1 ∨ 2000 < p.length) := by omega
      have HZZ := Lib.hid hzz
      obtain ⟨ck, hck⟩ : ∃ ck, Pl.chunks p.length = ck := ⟨_, rfl⟩
      have hcke : ((p.length : Int) + 240 - 1) / 240 = (ck : Int) := by rw [← hck]; unfold Pl.chunks; omega
      have hckb : ck ≤ 9 := by rw [← hck]; unfold Pl.chunks; omega
      have HCK := Lib.hid hck
      obtain ⟨w2, hw2⟩ : ∃ w2, w1.alloc (.cells #[.int .i64 (ck : Nat)] 3) = w2 := ⟨_, rfl⟩
      have hb2 : Below w1.heap.size w1 w2 := by rw [← hw2]; exact (Below.refl _ _).alloc (Nat.le_refl _) _
      have hb12 : Below w.heap.size w w2 := HB1.out.trans (hb2.mono HB1.out.size)
      have B3 : Blk w2 (w.heap.size + 1 + 1) 3 [.int .i64 (ck : Nat)] := by rw [← hw2]; exact Blk.newAt _ _ _ _ hs1.symm
      have h2 := HST.out.below hb12
      obtain ⟨a0, a1, a2, a3, a4, a5, a6, b0, b1, b2, b3, b4, b5, b6⟩ := facts7 h2.cells.blk
      obtain ⟨d1, _⟩ := facts1 (HBB1.out.below hb2 HBB1.out.lt)
      obtain ⟨d3, _⟩ := facts1 B3
      have HB12 := Lib.hid hb12
      have HBX1 := Lib.hid (HBB1.out.below hb2 HBB1.out.lt)
      have HBX2 := Lib.hid (HBB2.out.below hb2 HBB2.out.lt)
      have HBX3 := Lib.hid B3
      have hwn : IntKind.i64.wrap ((l.next : Int) + ck) = (l.next : Int) + ck := IntWalk.i64_in _ (by omega)
      have hn0 : (0 : Int) ≤ (l.next : Int) + ck := by omega
      have hmf : ∀ (fn : Fn) (first cap : Array Value) (w : World), (Instr.makeFunc fn first cap).run Tryd.prog w = .ok (.func fn first cap) w := fun _ _ _ _ => rfl
      clear hck hb2 hb12 B3 h2 hzz a0 a1 a3 a5 a6 b0 b1 b2 b3 b4 b5 b6
      by_cases hfull : l.data < l.next + ck
      · have q3 : (l.data : Int) < (l.next : Int) + ck := by omega
        have HF := Lib.hid hfull
        clear hfull
        go_enter Tryd.func70, Tryd.ntmps70
        go_wp2_with fail
        go_quiet (fail)
        go_wp2_with fail
        go_ret
        exact LogOut.same (k := 5) HST.out (below_drewN HB12.out _) (append_full d HZZ.out (by rw [HCK.out]; exact HF.out))
      · have q3 : ¬ (l.data : Int) < (l.next : Int) + ck := by omega
        have HF := Lib.hid hfull
        clear hfull
        go_enter Tryd.func70, Tryd.ntmps70
        go_wp2_with fail
        go_quiet (fail)
        obtain ⟨w3, hw3⟩ : ∃ w3, w2.drewN nq = w3 := ⟨_, rfl⟩
        have hb13 : Below w.heap.size w w3 := by rw [← hw3]; exact below_drewN HB12.out _
        have hb23 : Below w2.heap.size w2 w3 := by rw [← hw3]; exact below_drewN (Below.refl _ _) _
        have HB13 := Lib.hid hb13
        have HY1 := Lib.hid (HBX1.out.below hb23 HBX1.out.lt)
        have HY2 := Lib.hid (HBX2.out.below hb23 HBX2.out.lt)
        have HY3 := Lib.hid (HBX3.out.below hb23 HBX3.out.lt)
        rw [hw3]
        obtain ⟨e1, _⟩ := facts1 HY1.out
        clear hw3 hb13 hb23 hw2 hw1 c1 c2 d1 d3 a2 a4
        cases hbad : l.bad
        · have HD := Lib.hid (do_log 96 #[.pointer (some ⟨w.heap.size + 1, 0, none⟩), .pointer (some ⟨w.heap.size, 0, none⟩), .pointer (some ⟨w.heap.size + 1 + 1, 0, none⟩)] gl g v va vs d rd l
            (fun k d' l' => k = (l.append d p).2.2 ∧ d' = (l.append d p).2.1 ∧ { l' with bad := (k == 3) } = (l.append d p).1) w w3 HST.out HB13.out hbad (fun W => enters_append W _ _ _) (by
              intro W hW
              have hS := (HST.out.below HB13.out).below hW
              have hbW := HB13.out.trans (hW.mono HB13.out.size)
              refine (append1_any gl g _ _ _ v va vs d rd l p A cap W hS (HY2.out.below hW HY2.out.lt) (HY1.out.below hW HY1.out.lt) (by rw [HCK.out]; exact HY3.out.below hW HY3.out.lt) (fun e => by have := (HST.out.rows.own.lt _ e).2; omega) (HBY.out.keep hbW) (fun q hq => ⟨Nat.lt_of_lt_of_le (HA.out q hq).1 hbW.size, (HA.out q hq).2⟩) hcap (by have := HZZ.out; omega) (by have := HZZ.out; omega) (by rw [HCK.out]; have := HF.out; omega) hfit hrows).mono ?_
              rintro e w' ⟨va', vs', he, hst, hsep, hrs, ho⟩
              rw [append_eq d HZZ.out (by rw [HCK.out]; exact HF.out) hbad]
              cases hok : (d.run (Pl.appendOps l p)).2
              · rw [hok] at he hst
                exact ⟨3, va', vs', _, l, he.endK, hbad, ⟨rfl, rfl, rfl⟩, hst, hsep, hrs, ho⟩
              · rw [hok] at he hst
                exact ⟨0, va', vs', _, Pl.appLg l p, he.endK, hbad, ⟨rfl, rfl, by cases l; simp at hbad; subst hbad; rfl⟩, hst, hsep, hrs, ho⟩))
          have HBD := Lib.hid hbad
          clear hbad
          go_wp2_with fail
          refine HD.out.mono ?_
          intro e w5 hpost
          have HP := Lib.hid (hpost.out (r := l.append d p) (fun k d' l' ⟨h1, h2, h3⟩ => by rw [h3, h2, h1]))
          obtain ⟨k, va', vs', d', l', hp, rfl, hst, hs, _, ho⟩ := hpost
          clear hp hst hs ho
          go_wp2_with fail
          go_ret
          exact HP.out
        · have HDB := Lib.hid (do_bad gl g va l (.func (.func 96) #[] #[.pointer (some ⟨w.heap.size + 1, 0, none⟩), .pointer (some ⟨w.heap.size, 0, none⟩), .pointer (some ⟨w.heap.size + 1 + 1, 0, none⟩)]) _ (HST.out.cells.below HB13.out) hbad)
          have HBD := Lib.hid hbad
          clear hbad
          go_wp2_with fail
          refine HDB.out.mono ?_
          rintro e w' ⟨rfl, rfl⟩
          go_wp2_with fail
          go_ret
          exact LogOut.same (k := 3) HST.out HB13.out (append_bad d HZZ.out (by rw [HCK.out]; exact HF.out) HBD.out)
end Go.Proofs.YtljmklohgpaopaaDoor

namespace Go.Proofs.YtljmklohgpaopaaDoor
open Go.RowKit

theorem strCells_bv (l : List UInt8) : Lib.strCells (tstr l) = bv l := rfl
theorem wread_ok (g : Nat) (v : Value) (d : Pl.Dk) (rd : Int) (i : Nat) (w : World) (h : DiskAt w g v d rd) (hi : i < d.secs.length) (hl : d.life ≠ 0) (o : Option (List UInt8)) (ho : d.look i = o) :
    Calls Tryd.prog 62 #[.pointer (some ⟨g, 0, none⟩), .int .i64 (i : Nat)] w fun e w' => e = .returned (.tuple #[.string (tstr (o.getD [])), .bool o.isSome]) ∧ (∃ rd', DiskAt w' g v d rd' ∧ Rds rd rd') ∧ Only (· = g) w w' := by
  subst ho
  refine (wread_any g v d rd i w h hi).mono ?_
  rintro e w' ⟨⟨h0, _⟩ | ⟨_, he⟩, h2, h3⟩
  · exact absurd h0 hl
  · exact ⟨he, h2, h3⟩
theorem wread_none (g : Nat) (v : Value) (d : Pl.Dk) (rd : Int) (i : Nat) (w : World) (h : DiskAt w g v d rd) (hi : i < d.secs.length) (hl : d.life ≠ 0) (ii : Int) (hii : ii = ((i : Nat) : Int)) (ho : d.look i = none) :
    Calls Tryd.prog 62 #[.pointer (some ⟨g, 0, none⟩), .int .i64 ii] w fun e w' => e = .returned (.tuple #[.string (tstr []), .bool false]) ∧ (∃ rd', DiskAt w' g v d rd' ∧ Rds rd rd') ∧ Only (· = g) w w' := hii ▸ wread_ok g v d rd i w h hi hl _ ho
theorem wread_some (g : Nat) (v : Value) (d : Pl.Dk) (rd : Int) (i : Nat) (w : World) (h : DiskAt w g v d rd) (hi : i < d.secs.length) (hl : d.life ≠ 0) (s : List UInt8) (ii : Int) (hii : ii = ((i : Nat) : Int)) (ho : d.look i = some s) :
    Calls Tryd.prog 62 #[.pointer (some ⟨g, 0, none⟩), .int .i64 ii] w fun e w' => e = .returned (.tuple #[.string (tstr s), .bool true]) ∧ (∃ rd', DiskAt w' g v d rd' ∧ Rds rd rd') ∧ Only (· = g) w w' := hii ▸ wread_ok g v d rd i w h hi hl _ ho
theorem look_sized {w : World} {g : Nat} {v : Value} {d : Pl.Dk} {rd : Int} (h : DiskAt w g v d rd) {i : Nat} {s : List UInt8} (hs : d.look i = some s) : s.length = 256 := by
  unfold Pl.Dk.look at hs
  split at hs
  · next x hx =>
    split at hs
    · cases hs
    · rw [← Option.some.inj hs]
      exact (h.sized x (List.mem_of_getElem? hx)).1
  · cases hs

/-- The reads of a log's sectors. -/
def reads (d : Pl.Dk) (l : Pl.Lg) : List (Option (List UInt8)) := (List.range l.data).map (fun i => d.look (l.first + 2 + i))
theorem reads_drop (d : Pl.Dk) (l : Pl.Lg) (k : Nat) (h : k < l.data) : (reads d l).drop k = d.look (l.first + 2 + k) :: (reads d l).drop (k + 1) := by
  have hl : k < (reads d l).length := by simp [reads]; exact h
  rw [List.drop_eq_getElem_cons hl]
  simp [reads]
theorem reads_end (d : Pl.Dk) (l : Pl.Lg) : (reads d l).drop l.data = [] := List.drop_eq_nil_of_le (by simp [reads])

def ScanPost (gl g : Nat) (v va : Value) (d : Pl.Dk) (l : Pl.Lg) (w : World) (e : Ending) (w' : World) : Prop :=
  ∃ va' vs' rd', e = .returned (.tuple #[]) ∧ LogSt w' gl g v va' vs' d rd' { l with all := (Pl.scan l.epoch (reads d l) 0 [] l.all l.next).1, next := (Pl.scan l.epoch (reads d l) 0 [] l.all l.next).2 } ∧ Sep w va va' ∧ Only (lFa gl g v va) w w'
/-- The rows' blocks lie below B. -/
def RowsLow (vs : List Value) (B : Nat) : Prop := ∀ u ∈ vs, ∀ k, u.ownBlock = some k → k < B
theorem RowsAt.onlyB {w w' : World} {va : Value} {vs : List Value} {ls : List (List UInt8)} {vb : Value} (h : RowsAt w va vs ls) (ho : Only (fun x => vb.ownBlock = some x) w w') (hk : Kinds (fun x => vb.ownBlock = some x) w [5]) (hl : ∀ u ∈ vs, ∀ k, u.ownBlock = some k → vb.ownBlock ≠ some k) : RowsAt w' va vs ls :=
  ⟨ho.own_ hk h.own (by decide), fun k u l hu hx => ho.own (h.each k u l hu hx) (fun x hx' e => hl u (List.mem_of_getElem? hu) x hx' e)⟩
theorem Only.of_grown_own {w w' : World} {vb : Value} (h : w.grownBy w' vb.ownBlock) : Only (fun x => vb.ownBlock = some x) w w' := ⟨h.os, h.tape, h.output, h.size, fun k hk hn => h.block k hk (fun e => hn e.symm)⟩
theorem kinds_own {w : World} {base n size : Nat} {e : TypeId} {v : Value} {xs : List Value} (h : w.ownsRow base e size v n xs) : Kinds (fun x => v.ownBlock = some x) w [e] := fun _ hx => ⟨e, by simp, own_typ h hx⟩

theorem LogSt.read {w w2 : World} {gl g : Nat} {v va : Value} {vs : List Value} {d : Pl.Dk} {rd rd2 : Int} {l : Pl.Lg} (h : LogSt w gl g v va vs d rd l) (hd : DiskAt w2 g v d rd2) (ho : Only (· = g) w w2) : LogSt w2 gl g v va vs d rd2 l := by
  have hk : Kinds (· = g) w [90] := fun x hx => by
    obtain ⟨wr', sy', hg'⟩ := h.disk.blk
    rw [hx]
    exact ⟨_, by simp, hg'.typ⟩
  exact ⟨hd, h.cells.only ho hk (by decide), h.rows.only ho hk (by decide) (by decide)⟩
theorem LogSt.low {w : World} {gl g : Nat} {v va : Value} {vs : List Value} {d : Pl.Dk} {rd : Int} {l : Pl.Lg} (h : LogSt w gl g v va vs d rd l) : RowsLow vs w.heap.size := by
  intro u hu k hk
  obtain ⟨j, hj⟩ := List.getElem?_of_mem hu
  have hvl : vs.length = l.all.length := by simpa using h.rows.own.1
  have hjl : j < l.all.length := by rw [← hvl]; exact (List.getElem?_eq_some_iff.1 hj).1
  exact ((h.rows.each j u _ hj (List.getElem?_eq_getElem hjl)).lt k hk).2
/-- The row that is read grows. -/
theorem LogSt.grew {w w' : World} {gl g B n : Nat} {v va vb : Value} {vs xs : List Value} {d : Pl.Dk} {rd : Int} {l : Pl.Lg} (h : LogSt w gl g v va vs d rd l) (hlow : RowsLow vs B) (hb : w.ownsRow B 5 1 vb n xs) (hg : w.grownBy w' vb.ownBlock) : LogSt w' gl g v va vs d rd l := by
  have ho := Only.of_grown_own hg
  have hk := kinds_own hb
  refine ⟨h.disk.onlyT ho hk (by decide) (by decide), h.cells.only ho hk (by decide), h.rows.onlyB ho hk (fun u hu k hk' e => ?_)⟩
  have := hlow u hu k hk'
  have := (hb.lt k e).1
  omega
/-- A payload is whole. -/
theorem scan_put {gl g k B : Nat} {v va v6 vb : Value} {vs : List Value} {d : Pl.Dk} {rd ki : Int} {l : Pl.Lg} {x : List UInt8} {w w' : World} (h : LogSt w gl g v va vs d rd l) (hx : w.ownsRow B 5 1 vb x.length (bv x)) (hg : w.grownBy w' va.ownBlock)
    (hown : w'.ownsRow 0 23 1 v6 (l.all.length + 1) (vs ++ [vb])) (hki : ki = ((k : Nat) : Int)) (hk : k ≤ l.data) :
    LogSt ((w'.setCell ⟨gl, 5, none⟩ v6).setCell ⟨gl, 4, none⟩ (.int .i64 ki)) gl g v v6 (vs ++ [vb]) d rd { l with all := l.all ++ [x], next := k } ∧ LogCells w' gl g va l ∧ Only (lFa gl g v va) w ((w'.setCell ⟨gl, 5, none⟩ v6).setCell ⟨gl, 4, none⟩ (.int .i64 ki)) := by
  subst hki
  have ho4 : Only (fun x => va.ownBlock = some x) w w' := Only.of_grown_own hg
  have hkv : Kinds (fun x => va.ownBlock = some x) w [23] := fun x hx => ⟨_, by simp, own_typ h.rows.own hx⟩
  have hd4 := h.disk.onlyT ho4 hkv (by decide) (by decide)
  have hcl4 := h.cells.only ho4 hkv (by decide)
  have ho5 : Only (· = gl) w' ((w'.setCell ⟨gl, 5, none⟩ v6).setCell ⟨gl, 4, none⟩ (.int .i64 ((k : Nat) : Int))) := ((Only.refl (· = gl) w').setCell (p := ⟨gl, 5, none⟩) (.inl rfl) _).setCell (p := ⟨gl, 4, none⟩) (.inl rfl) _
  have hk5 : Kinds (· = gl) w' [125] := by
    rintro x rfl
    exact ⟨_, by simp, hcl4.blk.typ⟩
  refine ⟨⟨hd4.onlyT ho5 hk5 (by decide) (by decide), ⟨(hcl4.blk.set_ 5 v6).set_ 4 _, h.cells.small.1, hk, h.cells.small.2.2⟩, ⟨?_, ?_⟩⟩, hcl4, (ho4.mono (fun _ _ h => .inr h)).trans' (ho5.mono (fun _ _ e => .inl (.inr e)))⟩
  · have : (l.all ++ [x]).length = l.all.length + 1 := by simp
    show World.ownsRow _ 0 _ 1 v6 (l.all ++ [x]).length (vs ++ [vb])
    rw [this]
    exact ho5.own_ hk5 hown (by decide)
  · intro i u y hu hy
    have hvl : vs.length = l.all.length := by simpa using h.rows.own.1
    change (l.all ++ [x])[i]? = some y at hy
    rcases Nat.lt_or_ge i l.all.length with h' | h'
    · rw [List.getElem?_append_left (by omega)] at hu
      rw [List.getElem?_append_left h'] at hy
      exact ho5.own_ hk5 (ho4.own_ hkv (h.rows.each i u y hu hy) (by decide)) (by decide)
    · have hi : i = l.all.length := by
        have := (List.getElem?_eq_some_iff.1 hy).1
        simp at this
        omega
      subst hi
      rw [List.getElem?_append_right (Nat.le_refl _), Nat.sub_self] at hy
      rw [← hvl, List.getElem?_append_right (Nat.le_refl _), Nat.sub_self] at hu
      simp at hu hy
      subst hu hy
      exact ho5.own_ hk5 (ho4.own_ hkv (own_low hx (Nat.zero_le _)) (by decide)) (by decide)
theorem Only.trans_sep {gl g : Nat} {v va va' : Value} {w w1 w2 : World} (ho : Only (lFa gl g v va) w w1) (h : Only (lFa gl g v va') w1 w2) (hs : Sep w va va') : Only (lFa gl g v va) w w2 :=
  ho.trans h (fun x hx e => by
    rcases e with e | e
    · exact .inl e
    · rcases hs x e with e | e
      · exact .inr e
      · exact absurd e (by omega))

/-- A sector that goes on, or ends a payload. -/
def Takes (e k : Nat) (b s : List UInt8) : Prop := Pl.ownOf e s = true ∧ Pl.num ((s.drop 9).take 4) = k ∧ Pl.sizeOf s ≤ 240 ∧ b.length + Pl.sizeOf s ≤ 2000
theorem scan_no {e k nx : Nat} {b s : List UInt8} {all : List (List UInt8)} (r : List (Option (List UInt8))) (h : ¬ Takes e k b s) : Pl.scan e (some s :: r) k b all nx = (all, nx) := by
  unfold Takes at h
  rw [Pl.scan, if_neg h]
theorem scan_more {e k nx : Nat} {b s : List UInt8} {all : List (List UInt8)} (r : List (Option (List UInt8))) (h : Takes e k b s) (h2 : ¬ (s.drop 13).headD 0 = 0) : Pl.scan e (some s :: r) k b all nx = Pl.scan e r (k + 1) (b ++ (s.drop 16).take (Pl.sizeOf s)) all nx := by
  unfold Takes at h
  rw [Pl.scan, if_pos h, if_neg h2]
theorem scan_ends {e k nx : Nat} {b s : List UInt8} {all : List (List UInt8)} (r : List (Option (List UInt8))) (h : Takes e k b s) (h2 : (s.drop 13).headD 0 = 0) : Pl.scan e (some s :: r) k b all nx = Pl.scan e r (k + 1) [] (all ++ [b ++ (s.drop 16).take (Pl.sizeOf s)]) (k + 1) := by
  unfold Takes at h
  rw [Pl.scan, if_pos h, if_pos h2]

set_option maxHeartbeats 4000000 in
set_option maxRecDepth 100000 in
theorem scan_any (gl g : Nat) (v va : Value) (vs : List Value) (d : Pl.Dk) (rd : Int) (l : Pl.Lg) (w : World) (h : LogSt w gl g v va vs d rd l) (hlife : d.life ≠ 0) (hfit : l.first + 2 + l.data ≤ d.secs.length) (hrows : l.all.length ≤ 5000) :
    Calls Tryd.prog 64 #[.pointer (some ⟨gl, 0, none⟩)] w (ScanPost gl g v va d l w) := by
  have HST := Lib.hid h
  have hsm := h.cells.small
  obtain ⟨a0, a1, a2, a3, a4, a5, a6, b0, b1, b2, b3, b4, b5, b6⟩ := facts7 h.cells.blk
  have HLF := Lib.hid hlife
  obtain ⟨res, hres⟩ : ∃ res, Pl.scan l.epoch (reads d l) 0 [] l.all l.next = res := ⟨_, rfl⟩
  have HRES := Lib.hid hres
  have hfin : ∀ (W : World) (va' : Value) (vs' : List Value) (rd' : Int), LogSt W gl g v va' vs' d rd' { l with all := res.1, next := res.2 } → Sep w va va' → Only (lFa gl g v va) w W → ScanPost gl g v va d l w (.returned (.tuple #[])) W := by
    intro W va' vs' rd' h1 h2 h3
    unfold ScanPost
    rw [hres]
    exact ⟨va', vs', rd', rfl, h1, h2, h3⟩
  have HFIN := Lib.hid hfin
  clear h hlife hres hfin
  go_enter Tryd.func64, Tryd.ntmps64
  go_wp2_with fail
  clear a0 a1 a2 a3 a4 a5 a6 b0 b1 b2 b3 b4 b5 b6
  go_loopw [2, 13] (fun vb i W => ∃ (k : Nat) (b : List UInt8) (allk : List (List UInt8)) (nk : Nat) (va' : Value) (vs' : List Value) (rdk : Int) (B : Nat), k ≤ l.data ∧ i = .int .i64 (k : Int) ∧ Hid (W.ownsRow B 5 1 vb b.length (bv b)) ∧ Hid (w.heap.size ≤ B ∧ B ≤ W.heap.size ∧ b.length ≤ 2000 ∧ allk.length ≤ 5000 + k ∧ nk ≤ l.data) ∧
    Hid (RowsLow vs' B) ∧ Hid (Pl.scan l.epoch ((reads d l).drop k) k b allk nk = res) ∧ Hid (LogSt W gl g v va' vs' d rdk { l with all := allk, next := nk }) ∧ Hid (Sep w va va') ∧ Hid (Only (lFa gl g v va) w W)) (fun _ i _ => l.data - (intOf i).toNat)
  case atStart => exact ⟨0, [], l.all, l.next, va, vs, rd, w.heap.size, Nat.zero_le _, rfl, World.ownsRow_nil _ _ _ _, ⟨Nat.le_refl _, Nat.le_refl _, by simp, by omega, hsm.2.1⟩, HST.out.low, HRES.out, HST.out, Sep.refl _ _, Only.refl _ _⟩
  case round =>
    obtain ⟨k, b, allk, nk, va', vs', rdk, B, hk, rfl, HOB, HBB, HLOW, HSC, HLS, HSEP, HO⟩ := hrel
    obtain ⟨a0, a1, a2, a3, a4, a5, a6, b0, b1, b2, b3, b4, b5, b6⟩ := facts7 HLS.out.cells.blk
    obtain ⟨Ab, capb, rfl, _, _, _⟩ := own_src HOB.out
    have hvo : wr.ownsRow 0 23 1 va' allk.length vs' := HLS.out.rows.own
    obtain ⟨Av, capv, rfl, _, _, _⟩ := own_src hvo
    clear hvo
    by_cases hkd : k < l.data
    · have hsc2 := HSC.out
      rw [reads_drop d l k hkd] at hsc2
      have HSC2 := Lib.hid hsc2
      have s0 := Lib.hid a0
      have hin : l.first + 2 + k < d.secs.length := by omega
      clear hsc2
      go_wp2_with fail
      cases hlk : d.look (l.first + 2 + k) with
      | none =>
        have HLK := Lib.hid hlk
        clear hlk
        go_region_held3 (fun W : World => W.cell? ⟨gl, 0, none⟩ = some (.pointer (some ⟨g, 0, none⟩))) (first | exact s0.out | exact s1.out | fail) (first
          | (go_at_call 90; (with_reducible refine (sector_any gl g (.slice Av allk.length capv) { l with all := allk, next := nk } k _ ?_ ?_).mono ?_); exact HLS.out.cells.below (w' := wr.drew) ((Below.refl _ _).drew); omega; rintro e w' ⟨rfl, rfl⟩)
          | (go_at_call 62; (with_reducible refine (wread_none g v d rdk (l.first + 2 + k) _ ?_ ?_ ?_ _ ?_ ?_).mono ?_); exact HLS.out.disk.below (w' := wr.drew) ((Below.refl _ _).drew); exact hin; exact HLF.out; omega; exact HLK.out; rintro e w2 ⟨rfl, ⟨rd2, hd2, _⟩, ho2⟩
             have HD2 := Lib.hid hd2
             have HO2 : Hid (Only (· = g) wr w2) := ⟨ho2.os, ho2.tape, ho2.output, ho2.size, ho2.block⟩
             have HLS2 := Lib.hid (HLS.out.read HD2.out HO2.out)
             have s1 := Lib.hid (HLS2.out.cells.blk.cell 0)
             clear hd2 ho2)
          | fail)
        have HOA2 := Lib.hid (HO.out.trans_sep (HO2.out.mono (fun x _ hx => (.inl (.inl (.inl hx)) : lFa gl g v (.slice Av allk.length capv) x))) HSEP.out)
        have hstop : ∀ W, Below w2.heap.size w2 W → (allk, nk) = res → ScanPost gl g v va d l w (.returned (.tuple #[])) W := by
          intro W hW hr
          refine HFIN.out W _ vs' rd2 ?_ HSEP.out (HOA2.out.below hW)
          rw [← hr]
          exact HLS2.out.below hW
        have HSTOP := Lib.hid hstop
        clear hstop
        go_wp2_with fail
        go_end0
        exact HSTOP.out _ (Below.refl _ _) (by rw [← HSC2.out, HLK.out]; rfl)
      | some s =>
        have HLK := Lib.hid hlk
        clear hlk
        go_region_held3 (fun W : World => W.cell? ⟨gl, 0, none⟩ = some (.pointer (some ⟨g, 0, none⟩))) (first | exact s0.out | exact s1.out | fail) (first
          | (go_at_call 90; (with_reducible refine (sector_any gl g (.slice Av allk.length capv) { l with all := allk, next := nk } k _ ?_ ?_).mono ?_); exact HLS.out.cells.below (w' := wr.drew) ((Below.refl _ _).drew); omega; rintro e w' ⟨rfl, rfl⟩)
          | (go_at_call 62; (with_reducible refine (wread_some g v d rdk (l.first + 2 + k) _ ?_ ?_ ?_ s _ ?_ ?_).mono ?_); exact HLS.out.disk.below (w' := wr.drew) ((Below.refl _ _).drew); exact hin; exact HLF.out; omega; exact HLK.out; rintro e w2 ⟨rfl, ⟨rd2, hd2, _⟩, ho2⟩
             have HD2 := Lib.hid hd2
             have HO2 : Hid (Only (· = g) wr w2) := ⟨ho2.os, ho2.tape, ho2.output, ho2.size, ho2.block⟩
             have HLS2 := Lib.hid (HLS.out.read HD2.out HO2.out)
             have s1 := Lib.hid (HLS2.out.cells.blk.cell 0)
             clear hd2 ho2)
          | fail)
        have HOA2 := Lib.hid (HO.out.trans_sep (HO2.out.mono (fun x _ hx => (.inl (.inl (.inl hx)) : lFa gl g v (.slice Av allk.length capv) x))) HSEP.out)
        have hstop : ∀ W, Below w2.heap.size w2 W → (allk, nk) = res → ScanPost gl g v va d l w (.returned (.tuple #[])) W := by
          intro W hW hr
          refine HFIN.out W _ vs' rd2 ?_ HSEP.out (HOA2.out.below hW)
          rw [← hr]
          exact HLS2.out.below hW
        have HSTOP := Lib.hid hstop
        clear hstop
        have hs256 := look_sized HLS.out.disk HLK.out
        have hsc3 := HSC2.out
        rw [HLK.out] at hsc3
        have HSC3 := Lib.hid hsc3
        have hk2 : Kinds (· = g) wr [90] := fun x hx => by
          obtain ⟨wr', sy', hg'⟩ := HLS.out.disk.blk
          rw [hx]
          exact ⟨_, by simp, hg'.typ⟩
        have HOB2 := Lib.hid (HO2.out.own_ hk2 HOB.out (by decide))
        clear hsc3 hk2
        obtain ⟨sz, hsz⟩ : ∃ sz, Pl.sizeOf s = sz := ⟨_, rfl⟩
        have m1 := fun w => run_str_mid w s 14 16 14 2 rfl rfl (by omega)
        have G1 := getS_any ((s.drop 14).take 2)
        have hszm : sz < 65536 := by
          have := Pl.num_take_lt (s.drop 14) 2
          rw [← hsz]
          exact this
        have hzl : ((s.drop 14).take 2).length ≤ 8 := Nat.le_trans (List.length_take_le _ _) (by omega)
        have G2 : ∀ W, Calls Tryd.prog 63 #[.string (tstr ((s.drop 14).take 2))] W fun e w' => e = .returned (.int .u64 (sz : Nat)) ∧ W = w' := by
          intro W
          rw [← hsz]
          exact G1 W hzl
        obtain ⟨z1, hz1⟩ : ∃ z, tstr ((s.drop 14).take 2) = z := ⟨_, rfl⟩
        rw [hz1] at m1 G2
        have HG := Lib.hid G2
        have HSZ := Lib.hid hsz
        clear G1 G2 hzl hz1 hsz
        cases hown : Pl.ownOf l.epoch s with
        | false =>
          have HOW := Lib.hid hown
          clear hown
          go_wp2_with fail
          refine (own_any gl g (.slice Av allk.length capv) { l with all := allk, next := nk } s _ HLS2.out.cells hs256).mono ?_
          rintro e w3 ⟨he, n3, rfl⟩
          rw [show ownRes _ s = _ from ownRes_no HOW.out] at he
          subst he
          go_wp2_with fail
          refine (HG.out _).mono ?_
          rintro e w' ⟨rfl, rfl⟩
          go_wp2_with fail
          go_end0
          exact HSTOP.out _ (below_drewN (Below.refl _ _) _) (by rw [← HSC3.out, scan_no]; intro h; have h1 := h.1; rw [HOW.out] at h1; cases h1)
        | true =>
          have HOW := Lib.hid hown
          clear hown
          obtain ⟨na, hna⟩ : ∃ n, Pl.num ((s.drop 9).take 4) = n := ⟨_, rfl⟩
          have hnam : na < 4294967296 := by
            have := Pl.num_take_lt (s.drop 9) 4
            rw [← hna]
            exact this
          go_wp2_with fail
          refine (own_any gl g (.slice Av allk.length capv) { l with all := allk, next := nk } s _ HLS2.out.cells hs256).mono ?_
          rintro e w3 ⟨he, n3, rfl⟩
          rw [show ownRes _ s = _ from ownRes_yes HOW.out, hna] at he
          subst he
          have HNA := Lib.hid hna
          clear hna
          go_wp2_with fail
          refine (HG.out _).mono ?_
          rintro e w' ⟨rfl, rfl⟩
          by_cases hat : na = k
          · subst hat
            have q1 : ((na : Int) != (na : Int)) = false := by simp
            by_cases h240 : sz ≤ 240
            · have m2 := fun w => run_str_mid w s 16 (16 + (sz : Int)) 16 sz rfl (by omega) (by omega)
              obtain ⟨X, hX⟩ : ∃ X, (s.drop 16).take sz = X := ⟨_, rfl⟩
              have hXl : X.length = sz := by rw [← hX, List.length_take, List.length_drop]; omega
              rw [hX] at m2
              have HX := Lib.hid hX
              clear hX
              have hbl := HBB.out.2.2.1
              by_cases h2000 : b.length + sz ≤ 2000
              · have hz := tstr_size s
                obtain ⟨c, hc⟩ : ∃ c, (s.drop 13).headD 0 = c := ⟨_, rfl⟩
                have hd : ∀ (h' : 13 < (tstr s).size), (tstr s)[13]'h' = c := by
                  intro h'
                  have e1 : (tstr s)[13]'h' = s[13]'(by omega) := by simp [tstr]; rfl
                  rw [e1, ← hc, List.drop_eq_getElem_cons (by omega)]
                  rfl
                have HC := Lib.hid hc
                have HOB3 : Hid ((w2.drewN n3).ownsRow B 5 1 (.slice Ab b.length capb) b.length (bv b)) := own_below HOB2.out (below_drewN (Below.refl _ _) _)
                clear hc
                have h63 : Hid (b.length + (tstr X).size ≤ maxLen) := by rw [Hid, tstr_size]; simp only [maxLen]; omega
                have hby : Hid (b.length + (tstr X).size ≤ 140737488355328) := by rw [Hid, tstr_size]; omega
                have hbs : Hid (B ≤ (w2.drewN n3).heap.size) := by
                  have h1 := HBB.out.2.1
                  have h2 := HO2.out.size
                  exact Nat.le_trans h1 h2
                have HLS3 := Lib.hid (HLS2.out.below (w' := w2.drewN n3) (below_drewN (Below.refl _ _) _))
                have HOA3 := Lib.hid (HOA2.out.below (w' := w2.drewN n3) (below_drewN (Below.refl _ _) _))
                obtain ⟨i0, hi, hz0, hz1, hz2⟩ := info_parts Tryd.infoByte
                have HI := Lib.hid (And.intro hi (And.intro hz0 (And.intro hz1 hz2)))
                have htk : Takes l.epoch na b s := ⟨HOW.out, HNA.out, by rw [HSZ.out]; exact h240, by rw [HSZ.out]; exact h2000⟩
                have HTK := Lib.hid htk
                clear hi hz0 hz1 hz2 htk
                by_cases hc0 : c = 0
                · subst hc0
                  have q2 : ((0 : UInt8).toNat : Int) = 0 := by decide
                  have h63b : Hid (allk.length + 1 ≤ maxLen) := by rw [Hid]; simp only [maxLen]; have := HBB.out.2.2.2.1; omega
                  have hrb := Lib.hid (slice_room (n := allk.length) (m := 1) (by have := HBB.out.2.2.2.1; omega))
                  obtain ⟨j0, hj, hy0, hy1, hy2⟩ := info_parts Tryd.infoSlice
                  have HJ := Lib.hid (And.intro hj (And.intro hy0 (And.intro hy1 hy2)))
                  clear hj hy0 hy1 hy2
                  have hsc4 := HSC3.out
                  rw [scan_ends _ HTK.out HC.out, HSZ.out, HX.out] at hsc4
                  have HSC4 := Lib.hid hsc4
                  clear hsc4
                  go_wp2_with (first
                    | (at_builtin
                       refine Lib.wpList_append_own_string _ rfl (.tmp 57) (.tmp 61) 23 9 rfl B 5 i0 Tryd.underlying23 Tryd.underlying9 HI.out.1 HI.out.2.1 HI.out.2.2.1 HI.out.2.2.2 (.slice Ab b.length capb) b.length (bv b) rfl HOB3.out (tstr X) rfl h63.out hby.out hbs.out ?_
                       intro v2 w4 hown4 hgrow4 _
                       obtain ⟨A2, cap2, rfl, _, _, _⟩ := own_src hown4
                       have HO4 : Hid (w4.ownsRow B 5 1 (.slice A2 (b.length + (tstr X).size) cap2) (b ++ X).length (bv (b ++ X))) := by
                         rw [Hid, List.length_append, bv_append]
                         have := hown4
                         rwa [strCells_bv, tstr_size] at this
                       have HG4 := Lib.hid hgrow4
                       have HLS4 := Lib.hid (HLS3.out.grew HLOW.out HOB3.out hgrow4)
                       have HOA4 := Lib.hid (HOA3.out.trans (Only.of_grown_own hgrow4) (fun x hx e => absurd (HOB3.out.lt x e).1 (by have := HBB.out.1; omega)))
                       have hs4 := hgrow4.size
                       obtain ⟨_, _, _, _, _, e5, _⟩ := facts7 HLS4.out.cells.blk
                       clear hown4 hgrow4)
                    | (at_builtin
                       obtain ⟨W5, hW5⟩ : ∃ W5, w4.alloc (.cells #[.slice A2 (b.length + (tstr X).size) cap2] 23) = W5 := ⟨_, rfl⟩
                       have hb5 : Below w4.heap.size w4 W5 := by rw [← hW5]; exact (Below.refl _ _).alloc (Nat.le_refl _) _
                       have HB5 := Lib.hid hb5
                       have HSR5 : Hid (Src W5 (some ⟨w4.heap.size, 0, none⟩) [.slice A2 (b.length + (tstr X).size) cap2]) := by rw [Hid, ← hW5]; exact Src.of_blk (Blk.new w4 23 [.slice A2 (b.length + (tstr X).size) cap2])
                       have HO5 := Lib.hid (own_below HO4.out hb5)
                       have HLS5 := Lib.hid (HLS4.out.below hb5)
                       have HOA5 := Lib.hid (HOA4.out.below hb5)
                       have hs5 := hb5.size
                       rw [hW5]
                       clear hb5 hW5
                       refine wpList_append_src _ rfl (.tmp 70) (.tmp 72) 46 rfl 0 23 j0 (.slice none 0 0) 1 24 Tryd.underlying46 HJ.out.1 HJ.out.2.1 HJ.out.2.2.1 HJ.out.2.2.2 rfl (by decide) (.slice Av allk.length capv) allk.length vs' rfl HLS5.out.rows.own (some ⟨w4.heap.size, 0, none⟩) 1 1 [.slice A2 (b.length + (tstr X).size) cap2] rfl rfl HSR5.out (by intro u hu; simp at hu; subst hu; rfl) h63b.out hrb.out (Nat.zero_le _) ?_
                       intro v6 w6 hown6 hgrow6 hat6
                       obtain ⟨A6, cap6, rfl, _, _, _⟩ := own_src hown6
                       have hfin := scan_put (k := na + 1) (ki := (na : Int) + 1) HLS5.out HO5.out hgrow6 hown6 (by omega) (by show na + 1 ≤ l.data; omega)
                       have HFN := Lib.hid hfin
                       obtain ⟨_, _, _, _, k4, k5, _, _, _, _, _, f4, f5, _⟩ := facts7 hfin.2.1.blk
                       have hs6 := hgrow6.size
                       have HAT6 := Lib.hid hat6
                       clear hown6 hgrow6 hat6 hfin))
                  have hs := HOA5.out.size
                  have h1 := HBB.out.2.2.2.1
                  have hsep : Sep w va (.slice A6 (allk.length + 1) cap6) := fun x hx => by
                    rcases HAT6.out with e | e
                    · exact HSEP.out x (e ▸ hx)
                    · rw [hx] at e
                      injection e with e
                      exact .inr (by omega)
                  refine ⟨⟨na + 1, [], allk ++ [b ++ X], na + 1, .slice A6 (allk.length + 1) cap6, _, rd2, _, by omega, by go_num, World.ownsRow_nil _ _ _ _, ⟨?_, Nat.le_refl _, by simp, by simp; omega, by omega⟩, HFN.out.1.low, HSC4.out, HFN.out.1, hsep, HOA5.out.trans_sep HFN.out.2.2 HSEP.out⟩, by simp [intOf]; omega⟩
                  exact Nat.le_trans hs HFN.out.2.2.size
                · have q2 : ((c.toNat : Int) == 0) = false := by
                    have : c.toNat ≠ 0 := fun h => hc0 (UInt8.toNat_inj.1 h)
                    simp
                    omega
                  have hsc4 := HSC3.out
                  rw [scan_more _ HTK.out (by rw [HC.out]; exact hc0), HSZ.out, HX.out] at hsc4
                  have HSC4 := Lib.hid hsc4
                  clear hsc4
                  go_wp2_with (at_builtin
                               refine Lib.wpList_append_own_string _ rfl (.tmp 57) (.tmp 61) 23 9 rfl B 5 i0 Tryd.underlying23 Tryd.underlying9 HI.out.1 HI.out.2.1 HI.out.2.2.1 HI.out.2.2.2 (.slice Ab b.length capb) b.length (bv b) rfl HOB3.out (tstr X) rfl h63.out hby.out hbs.out ?_
                               intro v2 w4 hown4 hgrow4 _
                               obtain ⟨A2, cap2, rfl, _, _, _⟩ := own_src hown4
                               have HO4 : Hid (w4.ownsRow B 5 1 (.slice A2 (b.length + (tstr X).size) cap2) (b ++ X).length (bv (b ++ X))) := by
                                 rw [Hid, List.length_append, bv_append]
                                 have := hown4
                                 rwa [strCells_bv, tstr_size] at this
                               have HG4 := Lib.hid hgrow4
                               have HLS4 := Lib.hid (HLS3.out.grew HLOW.out HOB3.out hgrow4)
                               have HOA4 := Lib.hid (HOA3.out.trans (Only.of_grown_own hgrow4) (fun x hx e => absurd (HOB3.out.lt x e).1 (by have := HBB.out.1; omega)))
                               have hs4 := hgrow4.size
                               clear hown4 hgrow4)
                  have hs2 := HO2.out.size
                  have hs3 : w2.heap.size ≤ w4.heap.size := hs4
                  have h1 := HBB.out
                  refine ⟨⟨na + 1, b ++ X, allk, nk, _, vs', rd2, B, by omega, by go_num, HO4.out, ⟨h1.1, by omega, by rw [List.length_append, hXl]; exact h2000, by omega, h1.2.2.2.2⟩, HLOW.out, HSC4.out, HLS4.out, HSEP.out, HOA4.out⟩, by simp [intOf]; omega⟩
              · go_wp2_with fail
                go_end0
                exact HSTOP.out _ (below_drewN (Below.refl _ _) _) (by rw [← HSC3.out, scan_no]; intro h; have := h.2.2.2; rw [HSZ.out] at this; omega)
            · go_wp2_with fail
              go_end0
              exact HSTOP.out _ (below_drewN (Below.refl _ _) _) (by rw [← HSC3.out, scan_no]; intro h; have := h.2.2.1; rw [HSZ.out] at this; omega)
          · have q1 : ((na : Int) != (k : Int)) = true := by simp; omega
            go_wp2_with fail
            go_end0
            exact HSTOP.out _ (below_drewN (Below.refl _ _) _) (by rw [← HSC3.out, scan_no]; intro h; have := h.2.1; rw [HNA.out] at this; exact hat this)
    · obtain rfl : k = l.data := by omega
      have hr := HSC.out
      rw [reads_end] at hr
      have HR : Hid ((allk, nk) = res) := hr
      clear hr
      go_wp2_with fail
      go_end0
      refine HFIN.out _ _ vs' rdk ?_ HSEP.out HO.out
      rw [← HR.out]
      exact HLS.out
end Go.Proofs.YtljmklohgpaopaaDoor
