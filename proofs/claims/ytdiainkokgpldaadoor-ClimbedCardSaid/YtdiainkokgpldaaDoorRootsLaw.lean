/- The law Roots walked: it returns true. -/
import Derived.Test.YtdiainkokgpldaaDoorTreeL
import Derived.Deep.Cut
namespace Go.Proofs.YtdiainkokgpldaaDoor
open Go.RowKit

theorem bl_get {ss : List ByteArray} {k : Nat} {l : List UInt8} (h : (bl ss)[k]? = some l) : ∃ s, ss[k]? = some s ∧ l = s.data.toList := by
  simp only [bl, List.getElem?_map, Option.map_eq_some_iff] at h
  obtain ⟨s, h1, h2⟩ := h
  exact ⟨s, h1, h2.symm⟩

/-- What 'lent' made reads as the text. -/
theorem lentRow_bytes {w : World} {g : Nat} {l : List UInt8} (h : Blk w g 5 (lentRow l)) : BytesAt w (some ⟨g, 0, none⟩) l := by
  refine .inr ⟨g, 0, rfl, fun i hi => ?_⟩
  rw [Nat.zero_add, h.cell, lentRow, bv_append, List.getElem?_append_left (by simpa using hi), getb _ i hi]

theorem Lent.bb {w : World} {base : Nat} {gs : List Nat} {ss : List ByteArray} {A : Option Addr} {cap : Nat} (h : Lent w base (.slice A ss.length cap) gs ss) (hsz : ∀ s ∈ ss, s.size ≤ 140737488351232) : BB w A (bl ss) := by
  by_cases h0 : 0 < ss.length
  · obtain ⟨g0, cap', e0, _, _⟩ := own_addr h.own h0
    injection e0 with eA _ ec
    subst eA ec
    refine .inr ⟨g0, 0, rfl, fun i l hl => ?_⟩
    obtain ⟨s, hs, rfl⟩ := bl_get hl
    have hi : i < ss.length := by
      rcases Nat.lt_or_ge i ss.length with h' | h'
      · exact h'
      · rw [List.getElem?_eq_none h'] at hs; cases hs
    obtain ⟨g, hg⟩ : ∃ g, gs[i]? = some g := ⟨gs[i]'(by rw [h.len]; exact hi), List.getElem?_eq_getElem _⟩
    have hlen : s.data.toList.length = s.size := rfl
    refine ⟨by rw [hlen]; exact hsz s (List.mem_of_getElem? hs), some ⟨g, 0, none⟩, s.size + 2, by omega, ?_, lentRow_bytes (h.blk i g s hg hs)⟩
    rw [Nat.zero_add, hlen]
    exact own_at h.own i _ (lc_get hg hs)
  · left
    obtain rfl : ss = [] := List.eq_nil_of_length_eq_zero (by omega)
    rfl

theorem plainPath_bad (A : Option Addr) (n cap : Nat) (i : Int) (w : World) (hG : GE w) (h : i < 0 ∨ n ≤ i) :
    Calls Tryd.prog 12 #[.slice A n cap, .int .i64 i] w fun e w' => e = .returned (.tuple #[.string (pstr []), errA (9 : Nat) ⟨#[]⟩]) ∧ Below w.heap.size w w' := by
  refine plainPath_of A n cap i [] 9 w hG (by omega) (by simp) (by simp) ?_
  refine (pathE_bad A n cap i _ h).mono ?_
  rintro e w' ⟨rfl, rfl⟩
  exact ⟨none, 0, _, rfl, .inl rfl, ErrV.kind _ 9, Below.refl _ _⟩

theorem plainPath_good (ls : List (List UInt8)) (A : Option Addr) (cap i : Nat) (w : World) (hG : GE w) (hi : i < ls.length) (hb : BB w A ls) (hc : ls.length ≤ cap) (hm : ls.length ≤ 17592186044416) :
    Calls Tryd.prog 12 #[.slice A ls.length cap, .int .i64 i] w fun e w' => e = .returned (.tuple #[.string (pstr (Pl.path ls i)), errA (0 : Nat) ⟨#[]⟩]) ∧ Below w.heap.size w w' := by
  have hpl := Pl.path_len ls i hi
  refine plainPath_of A ls.length cap i (Pl.path ls i) 0 w hG (by omega) (by omega) (fun x hx => by have := Pl.path_lt ls i x hx; omega) ?_
  refine (pathE_good ls A cap i _ hi (hb.keep ((Below.refl _ _).alloc (Nat.le_refl _) _)) hc hm).mono ?_
  rintro e w' ⟨v, rfl, hown, hb1⟩
  obtain ⟨P, cp, rfl, _, hsrc, _⟩ := own_src hown
  exact ⟨P, cp, _, rfl, hsrc, ErrV.nil _, hb1⟩

theorem plainClimb_num (A : Option Addr) (n cap : Nat) (i m : Int) (L : List UInt8) (w : World) (hG : GE w) (hL : L.length ≤ 140737488355328) (h : m < 1 ∨ 4096 < m ∨ i < 0 ∨ m ≤ i) :
    Calls Tryd.prog 18 #[.slice A n cap, .int .i64 i, .int .i64 m, .string (tstr L)] w fun e w' => e = .returned (.tuple #[.string (hstr 0), errA (9 : Nat) ⟨#[]⟩]) ∧ Below w.heap.size w w' := by
  refine plainClimb_of A n cap i m L 0 9 w hG (by omega) hL (by omega) (fun W P cp _ _ _ => ?_)
  refine (climbE_num A P n cap _ cp i m W h).mono ?_
  rintro e w' ⟨rfl, hb⟩
  exact ⟨_, rfl, ErrV.kind _ 9, hb⟩

theorem plainClimb_len (A : Option Addr) (n cap i m : Nat) (L : List UInt8) (w : World) (hG : GE w) (hL : L.length ≤ 140737488355328) (hi : i < m) (hm : m ≤ 4096) (h : L.length / 4 ≠ Pl.depth i m) :
    Calls Tryd.prog 18 #[.slice A n cap, .int .i64 i, .int .i64 m, .string (tstr L)] w fun e w' => e = .returned (.tuple #[.string (hstr 0), errA (9 : Nat) ⟨#[]⟩]) ∧ Below w.heap.size w w' := by
  refine plainClimb_of A n cap i m L 0 9 w hG (by omega) hL (by omega) (fun W P cp _ _ _ => ?_)
  refine (climbE_len A P n cap _ cp i m W hi hm (by rw [Pl.groups_length]; exact h)).mono ?_
  rintro e w' ⟨rfl, hb⟩
  exact ⟨_, rfl, ErrV.kind _ 9, hb⟩

theorem plainClimb_good (l : List UInt8) (A : Option Addr) (cap i m : Nat) (L : List UInt8) (w : World) (hG : GE w) (hl : l.length ≤ 140737488351232) (hL : L.length ≤ 140737488355328) (hi : i < m) (hm : m ≤ 4096) (h : L.length / 4 = Pl.depth i m) (hb : BytesAt w A l) :
    Calls Tryd.prog 18 #[.slice A l.length cap, .int .i64 i, .int .i64 m, .string (tstr L)] w fun e w' => e = .returned (.tuple #[.string (hstr (Pl.climb l i m (Pl.groups L))), errA (0 : Nat) ⟨#[]⟩]) ∧ Below w.heap.size w w' := by
  have hlt := Pl.climb_lt l i m (Pl.groups L)
  refine plainClimb_of A l.length cap i m L _ 0 w hG (by omega) hL (by omega) (fun W P cp hbW hs hcp => ?_)
  refine (climbE_good l A P cap cp i m (Pl.groups L) W hl hi hm (by rw [Pl.groups_length]; exact h) (Pl.groups_lt L) (hb.keep hbW) hs hcp).mono ?_
  rintro e w' ⟨rfl, hb⟩
  exact ⟨_, rfl, ErrV.nil _, hb⟩
end Go.Proofs.YtdiainkokgpldaaDoor
