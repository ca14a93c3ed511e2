/- The walks of the reference's Root, Path, Deep, Climb. -/
import Derived.Test.YtljmklohgpaopaaDoorTreeC
namespace Go.Proofs.YtljmklohgpaopaaDoor
open Go.RowKit

def sv (ss : List ByteArray) : List Value := ss.map Value.string
def bl (ss : List ByteArray) : List (List UInt8) := ss.map fun s => s.data.toList
def hstr (n : Nat) : ByteArray := ⟨(Pl.hashText n).toArray⟩
theorem hstr_list (n : Nat) : (hstr n).data.toList = Pl.be 4 n := rfl
theorem hstr_size (n : Nat) : (hstr n).size = 4 := by
  show (Pl.hashText n).toArray.size = 4
  simp [Pl.hashText, Pl.be_length]
theorem sv_len (ss : List ByteArray) : (sv ss).length = ss.length := by simp [sv]
theorem bl_len (ss : List ByteArray) : (bl ss).length = ss.length := by simp [bl]
theorem bl_take (ss : List ByteArray) (k : Nat) : bl (ss.take k) = (bl ss).take k := by simp [bl]
theorem bl_drop (ss : List ByteArray) (k : Nat) : bl (ss.drop k) = (bl ss).drop k := by simp [bl]
theorem sv_take (ss : List ByteArray) (k : Nat) : sv (ss.take k) = (sv ss).take k := by simp [sv]
theorem sv_drop (ss : List ByteArray) (k : Nat) : sv (ss.drop k) = (sv ss).drop k := by simp [sv]
theorem Src.addr {w : World} {A : Option Addr} {cs : List Value} (h : Src w A cs) (hn : 0 < cs.length) : ∃ b off, A = some ⟨b, off, none⟩ := by
  rcases h with rfl | ⟨b, off, rfl, _⟩
  · simp at hn
  · exact ⟨b, off, rfl⟩
theorem Src.off {w : World} {b off : Nat} {cs : List Value} (h : Src w (some ⟨b, off, none⟩) cs) (k : Nat) : Src w (some ⟨b, off + k, none⟩) (cs.drop k) := by
  rcases h with rfl | ⟨b', off', e, h⟩
  · exact .inl (by simp)
  · cases e
    exact .inr ⟨_, _, rfl, fun j u hu => by rw [List.getElem?_drop] at hu; rw [Nat.add_assoc]; exact h _ u hu⟩
theorem Src.cell {w : World} {b off : Nat} {cs : List Value} (h : Src w (some ⟨b, off, none⟩) cs) (j : Nat) (u : Value) (hu : cs[j]? = some u) : w.cell? ⟨b, off + j, none⟩ = some u := by
  obtain ⟨b', off', e, hc⟩ := h.at_ j u hu
  cases e
  exact hc

theorem refSum_of (s : ByteArray) (l : List UInt8) (w : World) (hl : s.data.toList = l) (hm : l.length ≤ 9223372036854775807) :
    Calls Tryd.prog 29 #[.string s] w fun e w' => e = .returned (.string (hstr (Pl.sumN l))) ∧ Below w.heap.size w w' := by
  subst hl
  exact refSum_any s w hm

end Go.Proofs.YtljmklohgpaopaaDoor
