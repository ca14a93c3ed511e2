/- The walks of the reference's Root, Path, Deep, Climb. -/
import Derived.Test.YtdiainkokgpldaaDoorTreeC
namespace Go.Proofs.YtdiainkokgpldaaDoor
open Go.RowKit

def sv (ss : List ByteArray) : List Value := ss.map Value.string
def bl (ss : List ByteArray) : List (List UInt8) := ss.map fun s => s.data.toList
def hstr (n : Nat) : ByteArray := ⟨(Pl.hashText n).toArray⟩
theorem hstr_list (n : Nat) : (hstr n).data.toList = Pl.be 4 n := rfl
theorem hstr_size (n : Nat) : (hstr n).size = 4 := by
  show (Pl.hashText n).toArray.size = 4
  simp [Pl.hashText, Pl.be_length]
theorem sv_len (ss : List ByteArray) : (sv ss).length = ss.length := by simp [sv]
theorem bl_len (ss : List ByteArray) : (bl ss).length = ss.length := by simp [bl]
theorem bl_take (ss : List ByteArray) (k : Nat) : bl (ss.take k) = (bl ss).take k := by simp [bl]
theorem bl_drop (ss : List ByteArray) (k : Nat) : bl (ss.drop k) = (bl ss).drop k := by simp [bl]
theorem sv_take (ss : List ByteArray) (k : Nat) : sv (ss.take k) = (sv ss).take k := by simp [sv]
theorem sv_drop (ss : List ByteArray) (k : Nat) : sv (ss.drop k) = (sv ss).drop k := by simp [sv]
theorem Src.addr {w : World} {A : Option Addr} {cs : List Value} (h : Src w A cs) (hn : 0 < cs.length) : ∃ b off, A = some ⟨b, off, none⟩ := by
  rcases h with rfl | ⟨b, off, rfl, _⟩
  · simp at hn
  · exact ⟨b, off, rfl⟩
theorem Src.off {w : World} {b off : Nat} {cs : List Value} (h : Src w (some ⟨b, off, none⟩) cs) (k : Nat) : Src w (some ⟨b, off + k, none⟩) (cs.drop k) := by
  rcases h with rfl | ⟨b', off', e, h⟩
  · exact .inl (by simp)
  · cases e
    exact .inr ⟨_, _, rfl, fun j u hu => by rw [List.getElem?_drop] at hu; rw [Nat.add_assoc]; exact h _ u hu⟩
theorem Src.cell {w : World} {b off : Nat} {cs : List Value} (h : Src w (some ⟨b, off, none⟩) cs) (j : Nat) (u : Value) (hu : cs[j]? = some u) : w.cell? ⟨b, off + j, none⟩ = some u := by
  obtain ⟨b', off', e, hc⟩ := h.at_ j u hu
  cases e
  exact hc

theorem refSum_of (s : ByteArray) (l : List UInt8) (w : World) (hl : s.data.toList = l) (hm : l.length ≤ 9223372036854775807) :
    Calls Tryd.prog 42 #[.string s] w fun e w' => e = .returned (.string (hstr (Pl.sumN l))) ∧ Below w.heap.size w w' := by
  subst hl
  exact refSum_any s w hm

theorem refRoot_zero (A : Option Addr) (cap : Nat) (w : World) :
    Calls Tryd.prog 14 #[.slice A 0 cap] w fun e w' => e = .returned (.string (hstr (Pl.root []))) ∧ Below w.heap.size w w' := by
  rw [Pl.root_nil]
  go_enter Tryd.func14, Tryd.ntmps14
  go_wp2_with fail
  refine (refSum_of _ [] _ rfl (by simp)).mono ?_
  rintro e w1 ⟨rfl, hb1⟩
  go_wp2_with fail
  go_ret
  exact ⟨rfl, hb1⟩

theorem refRoot_single (s : ByteArray) (b off cap : Nat) (w : World) (hs : s.size ≤ 140737488351232) (hb : Src w (some ⟨b, off, none⟩) (sv [s])) :
    Calls Tryd.prog 14 #[.slice (some ⟨b, off, none⟩) 1 cap] w fun e w' => e = .returned (.string (hstr (Pl.root [s.data.toList]))) ∧ Below w.heap.size w w' := by
  rw [Pl.root_one]
  have hc := hb.cell 0 (.string s) rfl
  simp only [Nat.add_zero] at hc
  have hs2 : 1 + s.size ≤ 9223372036854775807 := by omega
  go_enter Tryd.func14, Tryd.ntmps14
  go_wp2_with fail
  refine (refSum_of _ (0 :: s.data.toList) _ (by simp) (by simp; omega)).mono ?_
  rintro e w1 ⟨rfl, hb1⟩
  go_wp2_with fail
  go_ret
  exact ⟨rfl, hb1⟩

set_option maxHeartbeats 1000000 in
theorem refRoot_step (ss : List ByteArray) (b off cap : Nat) (w : World) (hn : 2 ≤ ss.length) (hb : Src w (some ⟨b, off, none⟩) (sv ss)) (hc : ss.length ≤ cap) (hm : ss.length ≤ 4611686018427387903)
    (ih : ∀ (ss' : List ByteArray) (A : Option Addr) (cap : Nat) (w : World), ss'.length < ss.length → (∀ s ∈ ss', s ∈ ss) → Src w A (sv ss') → ss'.length ≤ cap →
      Calls Tryd.prog 14 #[.slice A ss'.length cap] w fun e w' => e = .returned (.string (hstr (Pl.root (bl ss')))) ∧ Below w.heap.size w w') :
    Calls Tryd.prog 14 #[.slice (some ⟨b, off, none⟩) ss.length cap] w fun e w' => e = .returned (.string (hstr (Pl.root (bl ss)))) ∧ Below w.heap.size w w' := by
  rw [Pl.root_many (bl ss) (by rw [bl_len]; exact hn), bl_len]
  obtain ⟨k, hk⟩ : ∃ k, Pl.half ss.length = k := ⟨_, rfl⟩
  have hk1 := Pl.half_pos ss.length
  have hk2 := Pl.half_lt hn
  rw [hk] at hk1 hk2 ⊢
  have hT : ∀ W, Src W (some ⟨b, off, none⟩) (sv (ss.take k)) → Calls Tryd.prog 14 #[.slice (some ⟨b, off, none⟩) k cap] W fun e w' => e = .returned (.string (hstr (Pl.root ((bl ss).take k)))) ∧ Below W.heap.size W w' := by
    intro W hW
    have := ih (ss.take k) (some ⟨b, off, none⟩) cap W (by simp; omega) (fun s hs => List.mem_of_mem_take hs) hW (by simp; omega)
    rwa [List.length_take, Nat.min_eq_left (Nat.le_of_lt hk2), bl_take] at this
  have hD : ∀ W, Src W (some ⟨b, off + k, none⟩) (sv (ss.drop k)) → Calls Tryd.prog 14 #[.slice (some ⟨b, off + k, none⟩) (ss.length - k) (cap - k)] W fun e w' => e = .returned (.string (hstr (Pl.root ((bl ss).drop k)))) ∧ Below W.heap.size W w' := by
    intro W hW
    have := ih (ss.drop k) (some ⟨b, off + k, none⟩) (cap - k) W (by rw [List.length_drop]; omega) (fun s hs => List.mem_of_mem_drop hs) hW (by rw [List.length_drop]; omega)
    rwa [List.length_drop, bl_drop] at this
  have ht := Lib.hid (show Src w (some ⟨b, off, none⟩) (sv (ss.take k)) by rw [sv_take]; exact hb.take k)
  have hd := Lib.hid (show Src w (some ⟨b, off + k, none⟩) (sv (ss.drop k)) by rw [sv_drop]; exact hb.off k)
  have HT := Lib.hid hT
  have HD := Lib.hid hD
  have HK := Lib.hid hk
  have hx0 : (0 : Int) ≤ (k : Int) := by omega
  have hx1 : (k : Int) ≤ (cap : Int) := by omega
  have hx2 : (k : Int) ≤ (ss.length : Int) := by omega
  have hx3 : ¬ cap = k := by omega
  have q0 : ((ss.length : Int) == 0) = false := beq_eq_false_iff_ne.2 (by omega)
  have q1 : ((ss.length : Int) == 1) = false := beq_eq_false_iff_ne.2 (by omega)
  have z1 := hstr_size (Pl.root ((bl ss).take k))
  have z2 := hstr_size (Pl.root ((bl ss).drop k))
  clear hT hD hk ih hb
  go_enter Tryd.func14, Tryd.ntmps14
  go_wp2_with fail
  refine (refHalf_any ss.length _ (by omega) (by omega)).mono ?_
  rintro e w' ⟨rfl, rfl⟩
  rw [HK.out]
  go_wp2_with fail
  refine (HT.out _ ht.out).mono ?_
  rintro e w1 ⟨rfl, hb1⟩
  go_wp2_with fail
  refine (HD.out _ (hd.out.below hb1)).mono ?_
  rintro e w2 ⟨rfl, hb2⟩
  go_wp2_with fail
  refine (refSum_of _ (1 :: (Pl.be 4 (Pl.root ((bl ss).take k)) ++ Pl.be 4 (Pl.root ((bl ss).drop k)))) _ (by simp [hstr_list]) (by simp [Pl.be_length])).mono ?_
  rintro e w3 ⟨rfl, hb3⟩
  go_wp2_with fail
  go_ret
  have h12 := hb1.trans (hb2.mono hb1.size)
  exact ⟨rfl, h12.trans (hb3.mono h12.size)⟩

theorem refRoot_any (n : Nat) : ∀ (ss : List ByteArray) (A : Option Addr) (cap : Nat) (w : World), ss.length ≤ n → (∀ s ∈ ss, s.size ≤ 140737488351232) → Src w A (sv ss) → ss.length ≤ cap → ss.length ≤ 4611686018427387903 →
    Calls Tryd.prog 14 #[.slice A ss.length cap] w fun e w' => e = .returned (.string (hstr (Pl.root (bl ss)))) ∧ Below w.heap.size w w' := by
  induction n with
  | zero =>
    intro ss A cap w hn hs hb hc hm
    obtain rfl : ss = [] := List.eq_nil_of_length_eq_zero (by omega)
    exact refRoot_zero A cap w
  | succ n ih =>
    intro ss A cap w hn hs hb hc hm
    match ss, hn, hs, hb, hc, hm with
    | [], _, _, _, _, _ => exact refRoot_zero A cap w
    | [s], _, hs, hb, _, _ =>
      obtain ⟨b, off, rfl⟩ := hb.addr (by simp [sv])
      exact refRoot_single s b off cap w (hs s (by simp)) hb
    | x :: y :: r, hn, hs, hb, hc, hm =>
      obtain ⟨b, off, rfl⟩ := hb.addr (by simp [sv])
      exact refRoot_step (x :: y :: r) b off cap w (by simp) hb hc hm (fun ss' A cap w h1 h2 h3 h4 => ih ss' A cap w (by omega) (fun s hx => hs s (h2 s hx)) h3 h4 (by omega))
end Go.Proofs.YtdiainkokgpldaaDoor
