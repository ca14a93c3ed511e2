/- Only these blocks have changed: laws over any program. -/
import Derived.Test.YtljmklohgpaopaaDoorTreeA
namespace Go.Proofs.YtljmklohgpaopaaDoor
open Go.RowKit

/-- Of the blocks that were there only those of F may have changed. -/
structure Only (F : Nat → Prop) (w w' : World) : Prop where
  os : w'.os = w.os
  tape : w'.tape = w.tape
  output : w'.output = w.output
  size : w.heap.size ≤ w'.heap.size
  block : ∀ k, k < w.heap.size → ¬ F k → w'.heap[k]? = w.heap[k]?

section
variable {F G : Nat → Prop} {a b c w w' : World}
theorem Only.refl (F : Nat → Prop) (w : World) : Only F w w := ⟨rfl, rfl, rfl, Nat.le_refl _, fun _ _ _ => rfl⟩
theorem Only.trans (h : Only F a b) (k : Only G b c) (hG : ∀ x, x < a.heap.size → G x → F x) : Only F a c :=
  ⟨k.os.trans h.os, k.tape.trans h.tape, k.output.trans h.output, Nat.le_trans h.size k.size, fun i hi hn => (k.block i (Nat.lt_of_lt_of_le hi h.size) (fun hg => hn (hG i hi hg))).trans (h.block i hi hn)⟩
theorem Only.trans' (h : Only F a b) (k : Only F b c) : Only F a c := h.trans k (fun _ _ hx => hx)
theorem Only.mono (h : Only F a b) (hG : ∀ x, x < a.heap.size → F x → G x) : Only G a b := ⟨h.os, h.tape, h.output, h.size, fun i hi hn => h.block i hi (fun hf => hn (hG i hi hf))⟩
theorem Only.drew (h : Only F a w) : Only F a w.drew := ⟨h.os, h.tape, h.output, h.size, h.block⟩
theorem Only.drewN (h : Only F a w) (n : Nat) : Only F a (w.drewN n) := ⟨h.os, h.tape, h.output, h.size, h.block⟩
theorem Only.undrew (h : Only F a.drew w) : Only F a w := ⟨h.os, h.tape, h.output, h.size, h.block⟩
theorem Only.alloc (h : Only F a w) (o : Obj) : Only F a (w.alloc o) :=
  ⟨h.os, h.tape, h.output, Nat.le_trans h.size (by simp), fun i hi hn => (Below.heap_alloc w o i (Nat.lt_of_lt_of_le hi h.size)).trans (h.block i hi hn)⟩
theorem Only.setCell (h : Only F a w) {p : Addr} (hp : F p.block ∨ a.heap.size ≤ p.block) (u : Value) : Only F a (w.setCell p u) :=
  ⟨h.os, h.tape, h.output, by simpa [World.setCell] using h.size, fun i hi hn => (Below.heap_setCell w p u i (by
    rintro rfl
    rcases hp with hp | hp
    · exact hn hp
    · omega)).trans (h.block i hi hn)⟩
theorem Only.setRow (h : Only F a w) {g : Nat} (hp : F g ∨ a.heap.size ≤ g) (cs : Array Value) : Only F a (w.setRow g cs) :=
  ⟨h.os, h.tape, h.output, by simpa [World.setRow] using h.size, fun i hi hn => (setRow_other w g i cs (by
    rintro rfl
    rcases hp with hp | hp
    · exact hn hp
    · omega)).trans (h.block i hi hn)⟩
theorem Only.of_below (h : Below a.heap.size a w) (F : Nat → Prop) : Only F a w := ⟨h.os, h.tape, h.output, h.size, fun i hi _ => h.block i hi⟩
theorem Only.below (h : Only F a w) (k : Below w.heap.size w w') : Only F a w' := h.trans (Only.of_below k (fun _ => False)) (fun _ _ hx => hx.elim)
theorem Only.grown (h : Only F a w) {row : Option Nat} (k : w.grownBy w' row) (hr : ∀ g, row = some g → F g ∨ a.heap.size ≤ g) : Only F a w' :=
  ⟨k.os.trans h.os, k.tape.trans h.tape, k.output.trans h.output, Nat.le_trans h.size k.size, fun i hi hn => (k.block i (Nat.lt_of_lt_of_le hi h.size) (fun e => by
    rcases hr i e.symm with hf | hf
    · exact hn hf
    · omega)).trans (h.block i hi hn)⟩
theorem Only.toBelow (h : Only F a w) {B : Nat} (hB : B ≤ a.heap.size) (hF : ∀ k, k < B → ¬ F k) : Below B a w := ⟨h.os, h.tape, h.output, h.size, fun k hk => h.block k (Nat.lt_of_lt_of_le hk hB) (hF k hk)⟩
theorem Only.of_grown {g : Nat} (h : w.grownBy w' (some g)) : Only (· = g) w w' := ⟨h.os, h.tape, h.output, h.size, fun k hk hn => h.block k hk (fun e => hn (Option.some.inj e))⟩
theorem Only.to_grown {g : Nat} (h : Only (· = g) w w') : w.grownBy w' (some g) := ⟨h.os, h.tape, h.output, h.size, fun k hk hn => h.block k hk (fun e => hn (by rw [e]))⟩

theorem Only.blk {g : Nat} {t : TypeId} {cs : List Value} (h : Only F w w') (hb : Blk w g t cs) (hg : ¬ F g) : Blk w' g t cs := (h.block g hb.lt hg).trans hb
theorem Only.cell (h : Only F w w') {p : Addr} {u : Value} (hp : w.cell? p = some u) (hn : ¬ F p.block) : w'.cell? p = some u :=
  (World.cell?_of_block (h.block p.block (World.block_lt_of_cell? _ _ hp) hn)).trans hp
theorem Only.src {A : Option Addr} {cs : List Value} (h : Only F w w') (hs : Src w A cs) (hA : ∀ p, A = some p → ¬ F p.block) : Src w' A cs := by
  rcases hs with hs | ⟨b, off, rfl, hs⟩
  · exact .inl hs
  · exact .inr ⟨b, off, rfl, fun j u hu => h.cell (hs j u hu) (hA ⟨b, off, none⟩ rfl)⟩
theorem Only.bytes {A : Option Addr} {l : List UInt8} (h : Only F w w') (hs : BytesAt w A l) (hA : ∀ p, A = some p → ¬ F p.block) : BytesAt w' A l := Src.bytes (h.src hs.src hA)
theorem Only.own {base n size : Nat} {e : TypeId} {v : Value} {xs : List Value} (h : Only F w w') (hs : w.ownsRow base e size v n xs) (hv : ∀ g, v.ownBlock = some g → ¬ F g) : w'.ownsRow base e size v n xs := by
  refine ⟨hs.1, ?_⟩
  rcases hs.2 with hn | ⟨g, cap, cur, rfl, hb, hg, rest⟩
  · exact .inl hn
  · refine .inr ⟨g, cap, cur, rfl, hb, ?_, rest⟩
    rw [h.block g (Array.getElem?_eq_some_iff.1 hg).1 (hv g rfl)]
    exact hg
end
end Go.Proofs.YtljmklohgpaopaaDoor
