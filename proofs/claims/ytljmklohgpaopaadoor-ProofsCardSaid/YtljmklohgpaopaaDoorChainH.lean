/- The walks of daybook's and plain's Extends and Attested; of the harness's four. -/
import Derived.Test.YtljmklohgpaopaaDoorChainG
import Derived.Test.YtljmklohgpaopaaDoorChainD
import Derived.Test.YtljmklohgpaopaaDoorTreeL
namespace Go.Proofs.YtljmklohgpaopaaDoor
open Go.RowKit

def kindV (ok : Bool) : Value := if ok then .nilIface else .iface 25 (.int .i64 ((19 : Nat) : Int))
def kindN (ok : Bool) : Nat := if ok then 0 else 19
theorem kindV_err (w : World) (ok : Bool) : ErrV w (kindV ok) (kindN ok) ⟨#[]⟩ := by
  cases ok
  · exact ErrV.kind w 19
  · exact ErrV.nil w
theorem digest_cells (n : Int) (h : Nat) : (Value.int .i64 n :: hc h).toArray = #[.int .i64 n, .int .u8 ((h : Int) / 16777216), .int .u8 ((h : Int) / 65536 % 256), .int .u8 ((h : Int) / 256 % 256), .int .u8 ((h : Int) % 256)] := rfl
theorem factsD {W : World} {d : Nat} {n : Int} {h : Nat} (B : Blk W d 76 (Value.int .i64 n :: hc h)) :
    W.cell? ⟨d, 0, none⟩ = some (.int .i64 n) ∧ W.cell? ⟨d, 1, none⟩ = some (.int .u8 ((h : Int) / 16777216)) ∧ W.cell? ⟨d, 2, none⟩ = some (.int .u8 ((h : Int) / 65536 % 256)) ∧ W.cell? ⟨d, 3, none⟩ = some (.int .u8 ((h : Int) / 256 % 256)) ∧ W.cell? ⟨d, 4, none⟩ = some (.int .u8 ((h : Int) % 256)) :=
  ⟨B.cell 0, B.cell 1, B.cell 2, B.cell 3, B.cell 4⟩

set_option maxHeartbeats 1000000 in
theorem dayExtends_any (old more : Int) (h g : Nat) (A : Option Addr) (cap : Nat) (l : List UInt8) (w : World) (hto : more ≤ 9223372036854775807) (hh : h < 4294967296) (hgg : g < 4294967296) (hb : BytesAt w A l) (hm : l.length ≤ 140737488351232) (hcp : l.length ≤ cap) :
    Calls Tryd.prog 25 #[digest old h, digest more g, .slice A l.length cap] w fun e w' => e = .returned (kindV (Pl.extends_ old h more g l)) ∧ Below w.heap.size w w' := by
  have hb0 : Below w.heap.size w ((w.alloc (.cells (Value.int .i64 old :: hc h).toArray 76)).alloc (.cells (Value.int .i64 more :: hc g).toArray 76)) := ((Below.refl _ _).alloc (Nat.le_refl _) _).alloc (by simp) _
  rw [digest_cells, digest_cells] at hb0
  have HE := fun W h1 => extends_any old more h g A cap l W hto hh hgg h1 hm hcp
  have HEX := Lib.hid HE
  have HBB := Lib.hid (hb.keep hb0)
  have HB0 := Lib.hid hb0
  clear hb0 HE hb
  obtain ⟨ok, hok⟩ : ∃ ok, Pl.extends_ old h more g l = ok := ⟨_, rfl⟩
  have HOK := Lib.hid hok
  rw [hok]
  clear hok
  unfold digest
  go_enter Tryd.func25, Tryd.ntmps25
  go_wp2_with fail
  refine (HEX.out _ HBB.out).mono ?_
  rintro e w2 ⟨rfl, hb2⟩
  have H2 := Lib.hid (HB0.out.trans (hb2.mono HB0.out.size))
  rw [HOK.out]
  clear hb2
  cases ok with
  | true =>
    go_wp2_with fail
    go_ret
    exact ⟨rfl, H2.out⟩
  | false =>
    go_wp2_with fail
    go_ret
    exact ⟨rfl, H2.out⟩

theorem results_err1 {fn : Func} {t : Tmp} {tmps : Array Value} {w : World} {g : Nat} {k : Int} {u : ByteArray} (h : fn.results = #[.cell t 27]) (ht : tmps.getD t undef = .pointer (some ⟨g, 0, none⟩)) (hB : Blk w g 27 [.int .i64 k, .string u, .bool true]) :
    (results fn tmps).run Tryd.prog w = .ok (errA k u) w := by
  have c0 := hB.cell 0
  have c1 := hB.cell 1
  have c2 := hB.cell 2
  simp only [List.getElem?_cons_succ, List.getElem?_cons_zero] at c0 c1 c2
  simp only [Array.getD_eq_getD_getElem?] at ht
  simp [results, h, ht, go_sem, c0, c1, c2, errA, asAddr]

set_option maxHeartbeats 2000000 in
set_option maxRecDepth 100000 in
theorem plainExtends_any (old more : Int) (s t : ByteArray) (A : Option Addr) (cap : Nat) (l : List UInt8) (w : World) (hG : GE w) (hto : more ≤ 9223372036854775807) (hb : BytesAt w A l) (hm : l.length ≤ 140737488351232) (hcp : l.length ≤ cap) :
    Calls Tryd.prog 8 #[.int .i64 old, .string s, .int .i64 more, .string t, .slice A l.length cap] w fun e w' =>
      e = .returned (errA (kindN (Pl.extends_ old (Pl.hashOf s.data.toList) more (Pl.hashOf t.data.toList) l)) ⟨#[]⟩) ∧ Below w.heap.size w w' := by
  have hh := Pl.hashOf_lt s.data.toList
  have hgg := Pl.hashOf_lt t.data.toList
  obtain ⟨h, hhe⟩ : ∃ h, Pl.hashOf s.data.toList = h := ⟨_, rfl⟩
  obtain ⟨g, hge⟩ : ∃ g, Pl.hashOf t.data.toList = g := ⟨_, rfl⟩
  have H1 := fun W => hash_any s W
  have H2 := fun W => hash_any t W
  rw [hhe] at hh H1 ⊢
  rw [hge] at hgg H2 ⊢
  have HE := Lib.hid (fun W h1 => dayExtends_any old more h g A cap l W hto hh hgg h1 hm hcp)
  have HH1 := Lib.hid H1
  have HH2 := Lib.hid H2
  have hB0 := Lib.hid (Blk.new w 27 [.int .i64 0, .string ⟨#[]⟩, .bool false])
  have hb0 : Below w.heap.size w (w.alloc err0) := (Below.refl _ _).alloc (Nat.le_refl _) _
  have HB0 := Lib.hid hb0
  have HBY := Lib.hid hb
  obtain ⟨ok, hok⟩ : ∃ ok, Pl.extends_ old h more g l = ok := ⟨_, rfl⟩
  have HOK := Lib.hid hok
  rw [hok]
  clear hok H1 H2 hhe hge hb0 hb
  go_enter Tryd.func8, Tryd.ntmps8
  go_wp2_with fail
  refine (HH1.out _).mono ?_
  rintro e w1 ⟨rfl, hb1⟩
  have B1 := Lib.hid (HB0.out.trans (hb1.mono (by simp)))
  have E1 := Lib.hid (hB0.out.below hb1 (by simp))
  clear hb1
  unfold hashVal
  go_wp2_with fail
  refine (HH2.out _).mono ?_
  rintro e w2 ⟨rfl, hb2⟩
  have B2 := Lib.hid (B1.out.trans (hb2.mono B1.out.size))
  have E2 := Lib.hid (E1.out.below hb2 E1.out.lt)
  clear hb2
  unfold hashVal
  go_wp2_with fail
  refine (HE.out _ (HBY.out.keep B2.out)).mono ?_
  rintro e w3 ⟨rfl, hb3⟩
  have B3 := Lib.hid (B2.out.trans (hb3.mono B2.out.size))
  have E3 := Lib.hid (E2.out.below hb3 E2.out.lt)
  rw [HOK.out]
  clear hb3
  go_wp2_with fail
  refine (told_any _ _ ⟨#[]⟩ _ (hG.below B3.out) (kindV_err _ ok) (by cases ok <;> decide)).mono ?_
  rintro e w4 ⟨rfl, hb4⟩
  have B4 := Lib.hid (B3.out.trans (hb4.mono B3.out.size))
  have E4 := E3.out.below hb4 E3.out.lt
  obtain ⟨c0, c1, c2, f0, f1, f2⟩ := facts3 E4
  have HE4 := Lib.hid E4
  clear hb4 E4
  go_wp2_with fail
  refine bodyPost_ret (v := errA (kindN ok) ⟨#[]⟩) (results_err1 rfl rfl (HE4.out.set3 _ _ _)) rfl ⟨rfl, ?_⟩
  exact below_set3 B4.out (Nat.le_refl _) _ _ _

theorem own_low {w : World} {base base' n size : Nat} {e : TypeId} {v : Value} {xs : List Value} (h : w.ownsRow base e size v n xs) (hb : base' ≤ base) : w.ownsRow base' e size v n xs := by
  refine ⟨h.1, ?_⟩
  rcases h.2 with hn | ⟨g, cap, cur, hv, hg, rest⟩
  · exact .inl hn
  · exact .inr ⟨g, cap, cur, hv, Nat.le_trans hb hg, rest⟩
def AttP (val : Bool → Value) (base : Nat) (w : World) (l : List UInt8) (more : Int) (g : Nat) (e : Ending) (w' : World) : Prop :=
  ∃ v txt ok, e = .returned (.tuple #[v, val ok]) ∧ (ok = true → Pl.attested l more g = some txt ∧ w'.ownsRow base 5 1 v txt.length (bv txt)) ∧ (ok = false → Pl.attested l more g = none ∧ v = .slice none 0 0) ∧ Below w.heap.size w w'

set_option maxHeartbeats 1000000 in
theorem dayAttested_any (more : Int) (g : Nat) (A : Option Addr) (cap : Nat) (l : List UInt8) (w : World) (hto : more ≤ 9223372036854775807) (hgg : g < 4294967296) (hb : BytesAt w A l) (hA : ∀ p, A = some p → p.block < w.heap.size) (hm : l.length ≤ 140737488351232) (hcp : l.length ≤ cap) :
    Calls Tryd.prog 27 #[.slice A l.length cap, digest more g] w (AttP kindV w.heap.size w l more g) := by
  have hb0 : Below w.heap.size w (w.alloc (.cells (Value.int .i64 more :: hc g).toArray 76)) := (Below.refl _ _).alloc (Nat.le_refl _) _
  rw [digest_cells] at hb0
  have HE := Lib.hid (fun W h1 h2 => attested_any more g A cap l W hto hgg h1 h2 hm hcp)
  have HBB := Lib.hid (hb.keep hb0)
  have HB0 := Lib.hid hb0
  have hA1 : Hid (∀ p, A = some p → p.block < w.heap.size + 1) := fun p hp => Nat.lt_succ_of_lt (hA p hp)
  clear hb0 hb hA
  unfold digest
  go_enter Tryd.func27, Tryd.ntmps27
  go_wp2_with fail
  refine (HE.out _ HBB.out (by simpa using hA1.out)).mono ?_
  rintro e w2 ⟨v, txt, ok, rfl, hok, hno, hb2⟩
  have HOK := Lib.hid hok
  have HNO := Lib.hid hno
  have H2 := Lib.hid (HB0.out.trans (hb2.mono HB0.out.size))
  clear hb2 hok hno
  cases ok with
  | true =>
    go_wp2_with fail
    go_ret2
    refine ⟨v, txt, true, rfl, fun h => ⟨(HOK.out (by trivial)).1, own_low (HOK.out (by trivial)).2 (by simp)⟩, fun h => (by cases h), H2.out⟩
  | false =>
    go_wp2_with fail
    go_ret2
    exact ⟨_, txt, false, rfl, fun h => (by cases h), fun h => ⟨HNO.out (by trivial), rfl⟩, H2.out⟩

set_option maxHeartbeats 2000000 in
set_option maxRecDepth 100000 in
theorem plainAttested_any (more : Int) (t : ByteArray) (A : Option Addr) (cap : Nat) (l : List UInt8) (w : World) (hG : GE w) (hto : more ≤ 9223372036854775807) (hb : BytesAt w A l) (hA : ∀ p, A = some p → p.block < w.heap.size) (hm : l.length ≤ 140737488351232) (hcp : l.length ≤ cap) :
    Calls Tryd.prog 9 #[.slice A l.length cap, .int .i64 more, .string t] w (AttP (fun ok => errA (kindN ok) ⟨#[]⟩) w.heap.size w l more (Pl.hashOf t.data.toList)) := by
  have hgg := Pl.hashOf_lt t.data.toList
  obtain ⟨g, hge⟩ : ∃ g, Pl.hashOf t.data.toList = g := ⟨_, rfl⟩
  have H2 := fun W => hash_any t W
  rw [hge] at hgg H2 ⊢
  have HE := Lib.hid (fun W h1 h2 => dayAttested_any more g A cap l W hto hgg h1 h2 hm hcp)
  have HH2 := Lib.hid H2
  have hB0 := Lib.hid (Blk.new w 27 [.int .i64 0, .string ⟨#[]⟩, .bool false])
  have hb0 : Below w.heap.size w (w.alloc err0) := (Below.refl _ _).alloc (Nat.le_refl _) _
  have HB0 := Lib.hid hb0
  have HBY := Lib.hid hb
  have HA := Lib.hid hA
  clear H2 hge hb0 hb hA
  go_enter Tryd.func9, Tryd.ntmps9
  go_wp2_with fail
  refine (HH2.out _).mono ?_
  rintro e w2 ⟨rfl, hb2⟩
  have B2 := Lib.hid (HB0.out.trans (hb2.mono (by simp)))
  have E2 := Lib.hid (hB0.out.below hb2 (by simp))
  clear hb2
  unfold hashVal
  go_wp2_with fail
  refine (HE.out _ (HBY.out.keep B2.out) (fun p hp => Nat.lt_of_lt_of_le (HA.out p hp) B2.out.size)).mono ?_
  rintro e w3 ⟨v, txt, ok, rfl, hok, hno, hb3⟩
  have B3 := Lib.hid (B2.out.trans (hb3.mono B2.out.size))
  have E3 := Lib.hid (E2.out.below hb3 E2.out.lt)
  have HOK := Lib.hid (fun h => (⟨(hok h).1, (hok h).2⟩ : _ ∧ _))
  have HNO := Lib.hid hno
  have hs2 := B2.out.size
  clear hb3 hok hno
  go_wp2_with fail
  refine (told_any _ _ ⟨#[]⟩ _ (hG.below B3.out) (kindV_err _ ok) (by cases ok <;> decide)).mono ?_
  rintro e w4 ⟨rfl, hb4⟩
  have B4 := Lib.hid (B3.out.trans (hb4.mono B3.out.size))
  have E4 := E3.out.below hb4 E3.out.lt
  obtain ⟨c0, c1, c2, f0, f1, f2⟩ := facts3 E4
  have HE4 := Lib.hid E4
  have HOK4 := Lib.hid (fun h => (⟨(HOK.out (by trivial)).1, own_below (HOK.out (by trivial)).2 hb4⟩ : _ ∧ _))
  have hl2 := E2.out.lt
  clear hb4 E4
  go_wp2_with fail
  refine bodyPost_ret (v := .tuple #[v, errA (kindN ok) ⟨#[]⟩]) (results_err2 rfl rfl rfl (HE4.out.set3 _ _ _)) rfl ⟨v, txt, ok, rfl, fun h => ⟨(HOK4.out h).1, ?_⟩, HNO.out, below_set3 B4.out (Nat.le_refl _) _ _ _⟩
  have hne := (HOK4.out h).2.lt
  have hfar : v.ownBlock ≠ some w.heap.size := fun e => by have := (hne _ e).1; omega
  have hon : Only (· = w.heap.size) w4 (((w4.setCell ⟨w.heap.size, 0, none⟩ (.int .i64 (kindN ok : Nat))).setCell ⟨w.heap.size, 1, none⟩ (.string ⟨#[]⟩)).setCell ⟨w.heap.size, 2, none⟩ (.bool true)) :=
    (((Only.refl (· = w.heap.size) w4).setCell (p := ⟨w.heap.size, 0, none⟩) (.inl rfl) _).setCell (p := ⟨w.heap.size, 1, none⟩) (.inl rfl) _).setCell (p := ⟨w.heap.size, 2, none⟩) (.inl rfl) _
  exact own_low (hon.own (HOK4.out h).2 (fun k hk e => hfar (by rw [hk, e]))) (by omega)
end Go.Proofs.YtljmklohgpaopaaDoor
