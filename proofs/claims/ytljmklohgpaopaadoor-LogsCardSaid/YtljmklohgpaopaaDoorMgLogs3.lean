/- What the rows over slices share: arguments that read as they did; the reach, of strings inside a slice; strings opened. Only these blocks have changed: laws over any program. The walks of the reference's Path and Deep, and of sums.Depth. The walks of sums.path and Path. The walk of the reference's Climb. The walks of sums.climb and Climb. -/
import Derived.Test.YtljmklohgpaopaaDoorMgLogs1
import Derived.Test.YtljmklohgpaopaaDoorMgLogs2
import Derived.Carry
import Derived.SliceStrings
import Derived.SizedLaws
import Derived.Deep.Slices

namespace Go.Proofs.YtljmklohgpaopaaDoor
open Go.ChangeShapes Go.WideShapes Go.ChangeAt Go.RowKit
set_option linter.unusedVariables false

section
variable {H : Type} {enc : TypeId × Value → H} {P : Program} {W W' : World}
theorem args_stay (hl : laidOutB P = true) (hb : Below W.heap.size W W') : ∀ (ts : List TypeId) (vs : List Value) (ds : List (DataW H)) (ps : List MemPlace), (∀ t ∈ ts, P.readableRec t = true ∧ t < P.types.size) →
    DataW.TrodAll enc P W 0 (fun _ => true) true ts vs ds ps → (∀ x ∈ ps, x.block < W.heap.size) → DataW.TrodAll enc P W' 0 (fun b => decide (b < W.heap.size)) true ts vs ds ps
  | [], vs, ds, ps, _, h, _ => by
    obtain ⟨rfl, rfl, rfl⟩ := trodAll_nil h
    exact trodAll_mk0
  | t :: ts, vs, ds, ps, hr, h, hlt => by
    obtain ⟨v, vs', d, ds', p, q, rfl, rfl, rfl, hd, hrest⟩ := trodAll_cons h
    have h1 := hr t (by simp)
    exact trodAll_cons_mk (Below.trod hl h1.1 h1.2 hd hb (fun x hx => hlt x (by simp [hx]))) (args_stay hl hb ts vs' ds' q (fun t' ht => hr t' (by simp [ht])) hrest (fun x hx => hlt x (by simp [hx])))

theorem weightsAll_mem {e : TypeId} : ∀ {l : List (DataW H)} {d : DataW H}, d ∈ l → ∀ n ∈ d.weights P e, n ∈ DataW.weightsAll P e l
  | d' :: r, d, hd, n, hn => by
    simp only [DataW.weightsAll, List.mem_append]
    rcases List.mem_cons.1 hd with rfl | h
    · exact Or.inl hn
    · exact Or.inr (weightsAll_mem h n hn)
theorem sized_inner_str {ts : List TypeId} {ds : List (DataW H)} (h : (DataW.weightsEach P ts ds).all (· ≤ reachBytes) = true) {j : Nat} {t e : TypeId} {elems spare : List (DataW H)} {bytes : List UInt8}
    (ht : ts[j]? = some t) (hd : ds[j]? = some (.slice elems spare)) (hu : P.underlying t = some (.slice e)) (hx : DataW.lit (.string bytes) ∈ elems) : bytes.length ≤ reachBytes := by
  refine of_decide_eq_true (List.all_eq_true.1 h _ (DataW.weights_mem_each ht hd _ ?_))
  simp only [DataW.weights, hu, List.mem_cons, List.mem_append]
  exact Or.inr (Or.inl (weightsAll_mem hx _ (by simp [DataW.weights])))

theorem spot_none {w : World} {b o : Nat} {sp : Option Nat} {v : Value} (h : w.cell? ⟨b, o, sp⟩ = some v) : sp = none := by
  cases sp with
  | none => rfl
  | some x =>
    unfold World.cell? at h
    split at h <;> simp at h

/-- A slice of strings among the arguments, opened. -/
theorem open_strs_src {ts : List TypeId} {ds : List (DataW H)} (hsz : (DataW.weightsEach P ts ds).all (· ≤ reachBytes) = true) {j : Nat} {t e : TypeId} {v : Value} {d : DataW H} {p : List MemPlace} {base : Nat}
    (hu : P.underlying t = some (.slice e)) (he : P.underlying e = some .string) (hc : P.cellsOf e = 1) (hby : P.bytesOf e = 16) (hval : Value.okWide P W .any base t v) (hd : DataW.Trod enc P W 0 (fun _ => true) true t v d p) (hj : ts[j]? = some t) (hdj : ds[j]? = some d) :
    ∃ A cap ss, v = .slice A ss.length cap ∧ Src W A (sv ss) ∧ ss.length ≤ cap ∧ ss.length ≤ 8796093022208 ∧ ∀ s ∈ ss, s.size ≤ 140737488351232 := by
  obtain ⟨a0, len, cap, rfl⟩ := okWide_slice hu hval
  obtain ⟨fuel, hf⟩ := hd
  rcases open_strings hu he hc hf with ⟨hcs, hx⟩ | ⟨a, len', cap', ss, hcs, _, hl, hm, hz, hx, hcell, _⟩
  · have : a0 = none ∧ len = 0 ∧ cap = 0 := by simpa [Value.cells] using hcs
    obtain ⟨rfl, rfl, rfl⟩ := this
    exact ⟨none, 0, [], rfl, .inl rfl, Nat.le_refl _, by simp, by simp⟩
  · have : a0 = some a ∧ len = len' ∧ cap = cap' := by simpa [Value.cells] using hcs
    obtain ⟨rfl, rfl, rfl⟩ := this
    simp only [if_true] at hz
    have hd' : d = .slice (strs (ss.take len)) (strs (ss.drop len)) := congrArg Prod.fst hx
    subst hd'
    have hlen : (ss.take len).length = len := by rw [List.length_take]; omega
    refine ⟨some a, cap, ss.take len, by rw [hlen], ?_, by omega, ?_, ?_⟩
    · by_cases h0 : len = 0
      · left; subst h0; simp [sv]
      · have hc0 := hcell 0 (by omega)
        have ha : a = ⟨a.block, a.off, none⟩ := by
          cases a with
          | mk bk of sp =>
            have h1 : (⟨bk, of, sp⟩ : Addr).add 0 = ⟨bk, of, sp⟩ := rfl
            rw [h1] at hc0
            rw [spot_none hc0]
        refine .inr ⟨a.block, a.off, by rw [← ha], fun i u hui => ?_⟩
        simp only [sv, List.getElem?_map, Option.map_eq_some_iff] at hui
        obtain ⟨s, hs, rfl⟩ := hui
        have hi : i < len := by
          rcases Nat.lt_or_ge i len with h' | h'
          · exact h'
          · rw [List.getElem?_eq_none (by omega)] at hs; cases hs
        have := hcell i (by omega)
        rw [ha, addr_add] at this
        rw [List.getElem?_take, if_pos hi] at hs
        rw [this, List.getD, hs]
        rfl
    · have := sized_slice hsz hj hdj hu
      rw [hby] at this
      simp only [strs, List.length_map, reachBytes] at this
      rw [hlen]
      rw [hlen] at this
      omega
    · intro s hs
      have := sized_inner_str hsz hj hdj hu (bytes := s.data.toList) (by simp only [strs, List.mem_map]; exact ⟨s, hs, rfl⟩)
      simpa [reachBytes] using this
end
end Go.Proofs.YtljmklohgpaopaaDoor

namespace Go.Proofs.YtljmklohgpaopaaDoor
open Go.RowKit

/-- Of the blocks that were there only those of F may have changed. -/
structure Only (F : Nat → Prop) (w w' : World) : Prop where
  os : w'.os = w.os
  tape : w'.tape = w.tape
  output : w'.output = w.output
  size : w.heap.size ≤ w'.heap.size
  block : ∀ k, k < w.heap.size → ¬ F k → w'.heap[k]? = w.heap[k]?

section
variable {F G : Nat → Prop} {a b c w w' : World}
theorem Only.refl (F : Nat → Prop) (w : World) : Only F w w := ⟨rfl, rfl, rfl, Nat.le_refl _, fun _ _ _ => rfl⟩
theorem Only.trans (h : Only F a b) (k : Only G b c) (hG : ∀ x, x < a.heap.size → G x → F x) : Only F a c :=
  ⟨k.os.trans h.os, k.tape.trans h.tape, k.output.trans h.output, Nat.le_trans h.size k.size, fun i hi hn => (k.block i (Nat.lt_of_lt_of_le hi h.size) (fun hg => hn (hG i hi hg))).trans (h.block i hi hn)⟩
theorem Only.trans' (h : Only F a b) (k : Only F b c) : Only F a c := h.trans k (fun _ _ hx => hx)
theorem Only.mono (h : Only F a b) (hG : ∀ x, x < a.heap.size → F x → G x) : Only G a b := ⟨h.os, h.tape, h.output, h.size, fun i hi hn => h.block i hi (fun hf => hn (hG i hi hf))⟩
theorem Only.drew (h : Only F a w) : Only F a w.drew := ⟨h.os, h.tape, h.output, h.size, h.block⟩
theorem Only.drewN (h : Only F a w) (n : Nat) : Only F a (w.drewN n) := ⟨h.os, h.tape, h.output, h.size, h.block⟩
theorem Only.undrew (h : Only F a.drew w) : Only F a w := ⟨h.os, h.tape, h.output, h.size, h.block⟩
theorem Only.alloc (h : Only F a w) (o : Obj) : Only F a (w.alloc o) :=
  ⟨h.os, h.tape, h.output, Nat.le_trans h.size (by simp), fun i hi hn => (Below.heap_alloc w o i (Nat.lt_of_lt_of_le hi h.size)).trans (h.block i hi hn)⟩
theorem Only.setCell (h : Only F a w) {p : Addr} (hp : F p.block ∨ a.heap.size ≤ p.block) (u : Value) : Only F a (w.setCell p u) :=
  ⟨h.os, h.tape, h.output, by simpa [World.setCell] using h.size, fun i hi hn => (Below.heap_setCell w p u i (by
    rintro rfl
    rcases hp with hp | hp
    · exact hn hp
    · omega)).trans (h.block i hi hn)⟩
theorem Only.setRow (h : Only F a w) {g : Nat} (hp : F g ∨ a.heap.size ≤ g) (cs : Array Value) : Only F a (w.setRow g cs) :=
  ⟨h.os, h.tape, h.output, by simpa [World.setRow] using h.size, fun i hi hn => (setRow_other w g i cs (by
    rintro rfl
    rcases hp with hp | hp
    · exact hn hp
    · omega)).trans (h.block i hi hn)⟩
theorem Only.of_below (h : Below a.heap.size a w) (F : Nat → Prop) : Only F a w := ⟨h.os, h.tape, h.output, h.size, fun i hi _ => h.block i hi⟩
theorem Only.below (h : Only F a w) (k : Below w.heap.size w w') : Only F a w' := h.trans (Only.of_below k (fun _ => False)) (fun _ _ hx => hx.elim)
theorem Only.grown (h : Only F a w) {row : Option Nat} (k : w.grownBy w' row) (hr : ∀ g, row = some g → F g ∨ a.heap.size ≤ g) : Only F a w' :=
  ⟨k.os.trans h.os, k.tape.trans h.tape, k.output.trans h.output, Nat.le_trans h.size k.size, fun i hi hn => (k.block i (Nat.lt_of_lt_of_le hi h.size) (fun e => by
    rcases hr i e.symm with hf | hf
    · exact hn hf
    · omega)).trans (h.block i hi hn)⟩
theorem Only.toBelow (h : Only F a w) {B : Nat} (hB : B ≤ a.heap.size) (hF : ∀ k, k < B → ¬ F k) : Below B a w := ⟨h.os, h.tape, h.output, h.size, fun k hk => h.block k (Nat.lt_of_lt_of_le hk hB) (hF k hk)⟩
theorem Only.of_grown {g : Nat} (h : w.grownBy w' (some g)) : Only (· = g) w w' := ⟨h.os, h.tape, h.output, h.size, fun k hk hn => h.block k hk (fun e => hn (Option.some.inj e))⟩
theorem Only.to_grown {g : Nat} (h : Only (· = g) w w') : w.grownBy w' (some g) := ⟨h.os, h.tape, h.output, h.size, fun k hk hn => h.block k hk (fun e => hn (by rw [e]))⟩

theorem Only.blk {g : Nat} {t : TypeId} {cs : List Value} (h : Only F w w') (hb : Blk w g t cs) (hg : ¬ F g) : Blk w' g t cs := (h.block g hb.lt hg).trans hb
theorem Only.cell (h : Only F w w') {p : Addr} {u : Value} (hp : w.cell? p = some u) (hn : ¬ F p.block) : w'.cell? p = some u :=
  (World.cell?_of_block (h.block p.block (World.block_lt_of_cell? _ _ hp) hn)).trans hp
theorem Only.src {A : Option Addr} {cs : List Value} (h : Only F w w') (hs : Src w A cs) (hA : ∀ p, A = some p → ¬ F p.block) : Src w' A cs := by
  rcases hs with hs | ⟨b, off, rfl, hs⟩
  · exact .inl hs
  · exact .inr ⟨b, off, rfl, fun j u hu => h.cell (hs j u hu) (hA ⟨b, off, none⟩ rfl)⟩
theorem Only.bytes {A : Option Addr} {l : List UInt8} (h : Only F w w') (hs : BytesAt w A l) (hA : ∀ p, A = some p → ¬ F p.block) : BytesAt w' A l := Src.bytes (h.src hs.src hA)
theorem Only.own {base n size : Nat} {e : TypeId} {v : Value} {xs : List Value} (h : Only F w w') (hs : w.ownsRow base e size v n xs) (hv : ∀ g, v.ownBlock = some g → ¬ F g) : w'.ownsRow base e size v n xs := by
  refine ⟨hs.1, ?_⟩
  rcases hs.2 with hn | ⟨g, cap, cur, rfl, hb, hg, rest⟩
  · exact .inl hn
  · refine .inr ⟨g, cap, cur, rfl, hb, ?_, rest⟩
    rw [h.block g (Array.getElem?_eq_some_iff.1 hg).1 (hv g rfl)]
    exact hg
end
end Go.Proofs.YtljmklohgpaopaaDoor

namespace Go.Proofs.YtljmklohgpaopaaDoor
open Go.RowKit

def pstr (ps : List Nat) : ByteArray := ⟨(Pl.ptext ps).toArray⟩
theorem pstr_list (ps : List Nat) : (pstr ps).data.toList = Pl.ptext ps := rfl
theorem pstr_size (ps : List Nat) : (pstr ps).size = 4 * ps.length := by
  show (Pl.ptext ps).toArray.size = _
  simp [Pl.ptext_length]
theorem pstr_snoc (ps : List Nat) (n : Nat) : pstr ps ++ hstr n = pstr (ps ++ [n]) := by
  have : (pstr ps ++ hstr n).data = (pstr (ps ++ [n])).data := by
    apply Array.toList_inj.1
    simp [pstr_list, hstr_list, Pl.ptext_append, Pl.ptext_one]
  cases h1 : pstr ps ++ hstr n; cases h2 : pstr (ps ++ [n]); rw [h1, h2] at this; simpa using this

/-- What is left of the way, and what of it is counted. -/
theorem depth_round (i m d n : Nat) (hi : i < m) (h : n + Pl.depth i m = d) (hm : 2 ≤ m) :
    (i < Pl.half m → n + 1 + Pl.depth i (Pl.half m) = d) ∧ (¬ i < Pl.half m → n + 1 + Pl.depth (i - Pl.half m) (m - Pl.half m) = d) := by
  constructor
  · intro h1
    rw [Pl.depth_lo _ _ hm h1] at h; omega
  · intro h1
    rw [Pl.depth_hi _ _ hm h1] at h; omega

set_option maxHeartbeats 400000 in
theorem refDeep_any (i m : Nat) (w : World) (hi : i < m) (hm : m ≤ 4611686018427387903) :
    Calls Tryd.prog 33 #[.int .i64 i, .int .i64 m] w fun e w' => e = .returned (.int .i64 (Pl.depth i m : Nat)) ∧ w = w' := by
  obtain ⟨d, hd⟩ : ∃ d, Pl.depth i m = d := ⟨_, rfl⟩
  rw [hd]
  have hdm := Pl.depth_lt i m hi
  rw [hd] at hdm
  have HD := Lib.hid hd
  clear hd
  go_enter Tryd.func33, Tryd.ntmps33
  go_wp2
  go_loop [0, 1, 5] (fun a b c => ∃ i' m' n : Nat, a = .int .i64 (i' : Int) ∧ b = .int .i64 (m' : Int) ∧ c = .int .i64 (n : Int) ∧ i' < m' ∧ m' ≤ m ∧ n ≤ d ∧ Hid (n + Pl.depth i' m' = d)) (fun _ b _ => (intOf b).toNat)
  case atStart => exact ⟨i, m, 0, rfl, rfl, rfl, hi, by omega, by omega, by rw [Hid, HD.out]; omega⟩
  case round =>
    obtain ⟨i', m', n, rfl, rfl, rfl, h1, h2, h3, H⟩ := hrel
    by_cases hlt : 1 < m'
    · have hr := depth_round i' m' d n h1 H.out (by omega)
      have hl := Pl.half_lt (n := m') (by omega)
      have hp := Pl.half_pos m'
      obtain ⟨k, hk⟩ : ∃ k, Pl.half m' = k := ⟨_, rfl⟩
      rw [hk] at hr hl hp
      have HK := Lib.hid hk
      have HR := Lib.hid hr
      clear hk hr
      by_cases hik : i' < k
      · go_wp2_with fail
        refine (refHalf_any m' _ (by omega) (by omega)).mono ?_
        rintro e w' ⟨rfl, rfl⟩
        rw [HK.out]
        go_wp2
        go_round
        case rel =>
          have := HR.out.1 hik
          exact ⟨i', k, n + 1, rfl, rfl, by go_num, hik, by omega, by omega, this⟩
        case measure => simp [intOf]; omega
      · have w0 : IntKind.i64.wrap ((i' : Int) - k) = ((i' - k : Nat) : Int) := by rw [IntWalk.i64_in _ (by omega)]; omega
        have w1 : IntKind.i64.wrap ((m' : Int) - k) = ((m' - k : Nat) : Int) := by rw [IntWalk.i64_in _ (by omega)]; omega
        go_wp2_with fail
        refine (refHalf_any m' _ (by omega) (by omega)).mono ?_
        rintro e w' ⟨rfl, rfl⟩
        rw [HK.out]
        go_wp2
        go_round
        case rel =>
          have := HR.out.2 hik
          exact ⟨i' - k, m' - k, n + 1, by simp only [w0], by simp only [w1], by go_num, by omega, by omega, by omega, this⟩
        case measure => simp [intOf]; omega
    · have h0 : Pl.depth i' m' = 0 := Pl.depth_one _ _ (by omega)
      have hn : n = d := by have := H.out; omega
      go_wp2
      go_ret
      exact ⟨rfl, rfl⟩

set_option maxHeartbeats 400000 in
theorem depth_any (i m : Nat) (w : World) (hi : i < m) (hm : m ≤ 4611686018427387903) :
    Calls Tryd.prog 106 #[.int .i64 i, .int .i64 m] w fun e w' => e = .returned (.int .i64 (Pl.depth i m : Nat)) ∧ w = w' := by
  obtain ⟨d, hd⟩ : ∃ d, Pl.depth i m = d := ⟨_, rfl⟩
  rw [hd]
  have hdm := Pl.depth_lt i m hi
  rw [hd] at hdm
  have HD := Lib.hid hd
  clear hd
  go_enter Tryd.func106, Tryd.ntmps106
  go_wp2
  go_loop [0, 1, 5] (fun a b c => ∃ i' m' n : Nat, a = .int .i64 (i' : Int) ∧ b = .int .i64 (m' : Int) ∧ c = .int .i64 (n : Int) ∧ i' < m' ∧ m' ≤ m ∧ n ≤ d ∧ Hid (n + Pl.depth i' m' = d)) (fun _ b _ => (intOf b).toNat)
  case atStart => exact ⟨i, m, 0, rfl, rfl, rfl, hi, by omega, by omega, by rw [Hid, HD.out]; omega⟩
  case round =>
    obtain ⟨i', m', n, rfl, rfl, rfl, h1, h2, h3, H⟩ := hrel
    by_cases hlt : 1 < m'
    · have hr := depth_round i' m' d n h1 H.out (by omega)
      have hl := Pl.half_lt (n := m') (by omega)
      have hp := Pl.half_pos m'
      obtain ⟨k, hk⟩ : ∃ k, Pl.half m' = k := ⟨_, rfl⟩
      rw [hk] at hr hl hp
      have HK := Lib.hid hk
      have HR := Lib.hid hr
      clear hk hr
      by_cases hik : i' < k
      · go_wp2_with fail
        refine (half_any m' _ (by omega) (by omega)).mono ?_
        rintro e w' ⟨rfl, rfl⟩
        rw [HK.out]
        go_wp2
        go_round
        case rel =>
          have := HR.out.1 hik
          exact ⟨i', k, n + 1, rfl, rfl, by go_num, hik, by omega, by omega, this⟩
        case measure => simp [intOf]; omega
      · have w0 : IntKind.i64.wrap ((i' : Int) - k) = ((i' - k : Nat) : Int) := by rw [IntWalk.i64_in _ (by omega)]; omega
        have w1 : IntKind.i64.wrap ((m' : Int) - k) = ((m' - k : Nat) : Int) := by rw [IntWalk.i64_in _ (by omega)]; omega
        go_wp2_with fail
        refine (half_any m' _ (by omega) (by omega)).mono ?_
        rintro e w' ⟨rfl, rfl⟩
        rw [HK.out]
        go_wp2
        go_round
        case rel =>
          have := HR.out.2 hik
          exact ⟨i' - k, m' - k, n + 1, by simp only [w0], by simp only [w1], by go_num, by omega, by omega, by omega, this⟩
        case measure => simp [intOf]; omega
    · have h0 : Pl.depth i' m' = 0 := Pl.depth_one _ _ (by omega)
      have hn : n = d := by have := H.out; omega
      go_wp2
      go_ret
      exact ⟨rfl, rfl⟩
end Go.Proofs.YtljmklohgpaopaaDoor

namespace Go.Proofs.YtljmklohgpaopaaDoor
open Go.RowKit

/-- Hashes as the cells of a row. -/
def hcs (ps : List Nat) : List Value := ps.flatMap hc
theorem hcs_len (ps : List Nat) : (hcs ps).length = ps.length * 4 := by
  induction ps with
  | nil => rfl
  | cons a r ih => simp only [hcs, List.flatMap_cons, List.length_append] at ih ⊢; rw [ih]; simp [hc]; omega
theorem hcs_append (a b : List Nat) : hcs (a ++ b) = hcs a ++ hcs b := by simp [hcs]
theorem hcs_one (n : Nat) : hcs [n] = hc n := by simp [hcs]
theorem hcs_oneCell (ps : List Nat) : ∀ v ∈ hcs ps, v.oneCell' = true := by
  intro v hv
  obtain ⟨n, _, h⟩ := List.mem_flatMap.1 hv
  exact hc_one n v h

theorem own_below {w w' : World} {base : Nat} {e : TypeId} {size n : Nat} {v : Value} {xs : List Value} (h : w.ownsRow base e size v n xs) (hb : Below w.heap.size w w') : w'.ownsRow base e size v n xs := by
  refine h.kept (only_of_below hb none) ?_
  cases v.ownBlock
  · exact .inl rfl
  · exact .inr (by simp)

theorem Tryd.infoHash : (Tryd.prog.info? 73).map (fun i => (i.zero, i.size, i.bytes)) = some (some (hashVal 0), 4, 4) := by kernel_rfl

theorem hash_room {n m : Nat} (h : n + m ≤ 17592186044416) : ∀ old, old < n + m → Builtin.nextslicecap (n + m) old * 4 ≤ 281474976710656 := by
  intro old ho
  have := nextslicecap_le54 ho
  omega

theorem size_alloc_le {n : Nat} {w : World} (h : n ≤ w.heap.size) (o : Obj) : n ≤ (w.alloc o).heap.size := Nat.le_trans h (by simp)

end Go.Proofs.YtljmklohgpaopaaDoor

namespace Go.Proofs.YtljmklohgpaopaaDoor
open Go.RowKit

def tstr (l : List UInt8) : ByteArray := ⟨l.toArray⟩
theorem tstr_size (l : List UInt8) : (tstr l).size = l.length := by show l.toArray.size = _; simp
theorem tstr_list (l : List UInt8) : (tstr l).data.toList = l := rfl
theorem tstr_append (a b : List UInt8) : tstr a ++ tstr b = tstr (a ++ b) := by
  have : (tstr a ++ tstr b).data = (tstr (a ++ b)).data := by
    apply Array.toList_inj.1
    simp [tstr_list]
  cases h1 : tstr a ++ tstr b; cases h2 : tstr (a ++ b); rw [h1, h2] at this; simpa using this
theorem run_cat (w : World) (a b : List UInt8) (h : a.length + b.length ≤ 9223372036854775807) : (Op.stringOp .add (tstr a) (tstr b)).run Tryd.prog w = .ok (.string (tstr (a ++ b))) w := by
  rw [run_string_add_sum w _ _ (by rw [tstr_size, tstr_size]; exact h), tstr_append]
theorem tstr_take (l : List UInt8) (k : Nat) : (tstr l).extract 0 k = tstr (l.take k) := by
  have : ((tstr l).extract 0 k).data = (tstr (l.take k)).data := by
    apply Array.toList_inj.1
    simp [tstr_list, tstr]
  cases h1 : (tstr l).extract 0 k; cases h2 : tstr (l.take k); rw [h1, h2] at this; simpa using this
theorem tstr_drop (l : List UInt8) (k : Nat) : (tstr l).extract k l.length = tstr (l.drop k) := by
  have : ((tstr l).extract k l.length).data = (tstr (l.drop k)).data := by
    apply Array.toList_inj.1
    simp [tstr_list, tstr]
    rw [List.take_of_length_le (by simp)]
  cases h1 : (tstr l).extract k l.length; cases h2 : tstr (l.drop k); rw [h1, h2] at this; simpa using this
theorem run_str_take (w : World) (l : List UInt8) (k : Int) (n : Nat) (hk : k = n) (hn : n ≤ l.length) :
    (Instr.slice 9 (.string (tstr l)) none (some (.int .i64 k)) none).run Tryd.prog w = .ok (.string (tstr (l.take n))) w := by
  subst hk
  rw [run_slice_string_to_if w 9 (tstr l) .i64 n Tryd.underlying9, if_pos ⟨by omega, by rw [tstr_size]; omega⟩, Int.toNat_natCast, tstr_take]
theorem run_str_drop (w : World) (l : List UInt8) (k : Int) (n : Nat) (hk : k = n) (hn : n ≤ l.length) :
    (Instr.slice 9 (.string (tstr l)) (some (.int .i64 k)) none none).run Tryd.prog w = .ok (.string (tstr (l.drop n))) w := by
  subst hk
  rw [run_slice_string_from_if w 9 (tstr l) .i64 n Tryd.underlying9, if_pos ⟨by omega, by rw [tstr_size]; omega⟩, Int.toNat_natCast, tstr_size, tstr_drop]

theorem refClimb_single (leaf s : ByteArray) (i : Nat) (w : World) (hs : leaf.size ≤ 140737488351232) :
    Calls Tryd.prog 34 #[.string leaf, .int .i64 i, .int .i64 1, .string s] w fun e w' => e = .returned (.string (hstr (Pl.sumN (0 :: leaf.data.toList)))) ∧ Below w.heap.size w w' := by
  have hs2 : 1 + leaf.size ≤ 9223372036854775807 := by omega
  go_enter Tryd.func34, Tryd.ntmps34
  go_wp2_with fail
  refine (refSum_of _ (0 :: leaf.data.toList) _ (by simp) (by simp; omega)).mono ?_
  rintro e w1 ⟨rfl, hb1⟩
  go_wp2_with fail
  go_ret
  exact ⟨rfl, hb1⟩

theorem split_last (ps : List Nat) (h : 0 < ps.length) : ∃ qs x, ps = qs ++ [x] := ⟨ps.dropLast, ps.getLast (List.ne_nil_of_length_pos h), (List.dropLast_concat_getLast _).symm⟩

set_option maxHeartbeats 2000000 in
theorem refClimb_step (leaf : ByteArray) (i m : Nat) (qs : List Nat) (x : Nat) (w : World) (hs : leaf.size ≤ 140737488351232) (hi : i < m) (hm : 2 ≤ m) (hm2 : m ≤ 4096) (hp : (qs ++ [x]).length = Pl.depth i m)
    (ih : ∀ (i' m' : Nat) (w : World), m' < m → i' < m' → qs.length = Pl.depth i' m' →
      Calls Tryd.prog 34 #[.string leaf, .int .i64 i', .int .i64 m', .string (pstr qs)] w fun e w' => e = .returned (.string (hstr (Pl.climb leaf.data.toList i' m' qs))) ∧ Below w.heap.size w w') :
    Calls Tryd.prog 34 #[.string leaf, .int .i64 i, .int .i64 m, .string (pstr (qs ++ [x]))] w fun e w' => e = .returned (.string (hstr (Pl.climb leaf.data.toList i m (qs ++ [x])))) ∧ Below w.heap.size w w' := by
  have hqq := Pl.depth_lt i m hi
  rw [← hp, List.length_append] at hqq
  simp only [List.length_cons, List.length_nil] at hqq
  obtain ⟨k, hk⟩ : ∃ k, Pl.half m = k := ⟨_, rfl⟩
  have hk1 := Pl.half_pos m
  have hk2 := Pl.half_lt hm
  rw [hk] at hk1 hk2
  have HK := Lib.hid hk
  have hsz : (pstr (qs ++ [x])).size = 4 * qs.length + 4 := by rw [pstr_size]; simp; omega
  obtain ⟨s, hse⟩ : ∃ s, pstr (qs ++ [x]) = s := ⟨_, rfl⟩
  have hlist : Pl.ptext (qs ++ [x]) = Pl.ptext qs ++ Pl.be 4 x := by rw [Pl.ptext_append, Pl.ptext_one]
  have hlq := Pl.ptext_length qs
  obtain ⟨q, hq⟩ : ∃ q, 4 * qs.length = q := ⟨_, rfl⟩
  have hs1 : ∀ w, (Instr.slice 9 (.string s) none (some (.int .i64 (q : Int))) none).run Tryd.prog w = .ok (.string (pstr qs)) w := by
    intro w
    have := run_str_take w (Pl.ptext (qs ++ [x])) q q rfl (by rw [hlist, List.length_append]; omega)
    rw [show tstr (Pl.ptext (qs ++ [x])) = s from hse, hlist, List.take_left' (by omega)] at this
    exact this
  have hs2 : ∀ w, (Instr.slice 9 (.string s) (some (.int .i64 (q : Int))) none none).run Tryd.prog w = .ok (.string (hstr x)) w := by
    intro w
    have := run_str_drop w (Pl.ptext (qs ++ [x])) q q rfl (by rw [hlist, List.length_append]; omega)
    rw [show tstr (Pl.ptext (qs ++ [x])) = s from hse, hlist, List.drop_left' (by omega)] at this
    exact this
  rw [hse] at hsz ⊢
  have w0 : IntKind.i64.wrap ((s.size : Int) - 4) = (q : Int) := by rw [IntWalk.i64_in _ (by omega)]; omega
  clear hq hsz
  have q1 : ((m : Int) == 1) = false := beq_eq_false_iff_ne.2 (by omega)
  clear hlist hlq hk hse
  by_cases hik : i < k
  · have hC : Pl.climb leaf.data.toList i m (qs ++ [x]) = Pl.sumN (1 :: (Pl.be 4 (Pl.climb leaf.data.toList i k qs) ++ Pl.be 4 x)) := by
      rw [Pl.climb_lo _ _ _ _ hm (by rw [HK.out]; exact hik), HK.out]; simp
    rw [hC]
    obtain ⟨c, hc⟩ : ∃ c, Pl.climb leaf.data.toList i k qs = c := ⟨_, rfl⟩
    have hI : ∀ W, Calls Tryd.prog 34 #[.string leaf, .int .i64 i, .int .i64 k, .string (pstr qs)] W fun e w' => e = .returned (.string (hstr c)) ∧ Below W.heap.size W w' := by
      intro W
      rw [← hc]
      exact ih i k W hk2 hik (by
        rw [Pl.depth_lo _ _ hm (by rw [HK.out]; exact hik), HK.out] at hp
        simpa using hp)
    have HI := Lib.hid hI
    rw [hc]
    have hcat1 : ∀ w, (Op.stringOp .add ⟨#[1]⟩ (hstr c)).run Tryd.prog w = .ok (.string (tstr (1 :: Pl.be 4 c))) w := fun w => run_cat w [1] (Pl.be 4 c) (by simp [Pl.be_length])
    have hcat2 : ∀ w, (Op.stringOp .add (tstr (1 :: Pl.be 4 c)) (hstr x)).run Tryd.prog w = .ok (.string (tstr (1 :: (Pl.be 4 c ++ Pl.be 4 x)))) w := fun w => run_cat w (1 :: Pl.be 4 c) (Pl.be 4 x) (by simp [Pl.be_length])
    clear hI hc hC ih hp
    go_enter Tryd.func34, Tryd.ntmps34
    go_wp2_with fail
    refine (refHalf_any m _ (by omega) (by omega)).mono ?_
    rintro e w' ⟨rfl, rfl⟩
    rw [HK.out]
    go_wp2_with fail
    go_region_held3 (fun _ => True) (trivial) (first
      | (go_at_call 34; (with_reducible refine (HI.out _).mono ?_); rintro e w1 ⟨rfl, hb1'⟩; have hb1 := undrew hb1')
      | (go_at_call 29; refine (refSum_of _ (1 :: (Pl.be 4 c ++ Pl.be 4 x)) _ (tstr_list _) (by simp [Pl.be_length])).mono ?_; rintro e w2 ⟨rfl, hb2⟩))
    go_wp2_with fail
    go_ret
    exact ⟨rfl, hb1.trans (hb2.mono hb1.size)⟩
  · have hC : Pl.climb leaf.data.toList i m (qs ++ [x]) = Pl.sumN (1 :: (Pl.be 4 x ++ Pl.be 4 (Pl.climb leaf.data.toList (i - k) (m - k) qs))) := by
      rw [Pl.climb_hi _ _ _ _ hm (by rw [HK.out]; exact hik), HK.out]; simp
    rw [hC]
    obtain ⟨c, hc⟩ : ∃ c, Pl.climb leaf.data.toList (i - k) (m - k) qs = c := ⟨_, rfl⟩
    have hI : ∀ W, Calls Tryd.prog 34 #[.string leaf, .int .i64 ((i : Int) - k), .int .i64 ((m : Int) - k), .string (pstr qs)] W fun e w' => e = .returned (.string (hstr c)) ∧ Below W.heap.size W w' := by
      intro W
      have := ih (i - k) (m - k) W (by omega) (by omega) (by
        rw [Pl.depth_hi _ _ hm (by rw [HK.out]; exact hik), HK.out] at hp
        simpa using hp)
      rwa [hc, Int.ofNat_sub (by omega), Int.ofNat_sub (by omega)] at this
    have HI := Lib.hid hI
    rw [hc]
    have hcat1 : ∀ w, (Op.stringOp .add ⟨#[1]⟩ (hstr x)).run Tryd.prog w = .ok (.string (tstr (1 :: Pl.be 4 x))) w := fun w => run_cat w [1] (Pl.be 4 x) (by simp [Pl.be_length])
    have hcat2 : ∀ w, (Op.stringOp .add (tstr (1 :: Pl.be 4 x)) (hstr c)).run Tryd.prog w = .ok (.string (tstr (1 :: (Pl.be 4 x ++ Pl.be 4 c)))) w := fun w => run_cat w (1 :: Pl.be 4 x) (Pl.be 4 c) (by simp [Pl.be_length])
    have w1 : IntKind.i64.wrap ((i : Int) - k) = (i : Int) - k := IntWalk.i64_in _ (by omega)
    have w2 : IntKind.i64.wrap ((m : Int) - k) = (m : Int) - k := IntWalk.i64_in _ (by omega)
    clear hI hc hC ih hp
    go_enter Tryd.func34, Tryd.ntmps34
    go_wp2_with fail
    refine (refHalf_any m _ (by omega) (by omega)).mono ?_
    rintro e w' ⟨rfl, rfl⟩
    rw [HK.out]
    go_wp2_with fail
    go_region_held3 (fun _ => True) (trivial) (first
      | (go_at_call 34; (with_reducible refine (HI.out _).mono ?_); rintro e w1 ⟨rfl, hb1'⟩; have hb1 := undrew hb1')
      | (go_at_call 29; refine (refSum_of _ (1 :: (Pl.be 4 x ++ Pl.be 4 c)) _ (tstr_list _) (by simp [Pl.be_length])).mono ?_; rintro e w2 ⟨rfl, hb2⟩))
    go_wp2_with fail
    go_ret
    exact ⟨rfl, hb1.trans (hb2.mono hb1.size)⟩

theorem refClimb_any (leaf : ByteArray) (hs : leaf.size ≤ 140737488351232) (n : Nat) : ∀ (i m : Nat) (ps : List Nat) (w : World), m ≤ n → i < m → m ≤ 4096 → ps.length = Pl.depth i m →
    Calls Tryd.prog 34 #[.string leaf, .int .i64 i, .int .i64 m, .string (pstr ps)] w fun e w' => e = .returned (.string (hstr (Pl.climb leaf.data.toList i m ps))) ∧ Below w.heap.size w w' := by
  induction n with
  | zero => intro i m ps w hn hi; omega
  | succ n ih =>
    intro i m ps w hn hi hm hp
    by_cases h1 : m = 1
    · subst h1
      rw [Pl.climb_one _ _ _ _ (Nat.le_refl _)]
      exact refClimb_single leaf _ i w hs
    · have : 0 < ps.length := by
        rw [hp]
        by_cases hik : i < Pl.half m
        · rw [Pl.depth_lo _ _ (by omega) hik]; omega
        · rw [Pl.depth_hi _ _ (by omega) hik]; omega
      obtain ⟨qs, x, rfl⟩ := split_last ps this
      exact refClimb_step leaf i m qs x w hs hi (by omega) hm hp (fun i' m' w h1 h2 h3 => ih i' m' qs w (by omega) h2 (by omega) h3)
end Go.Proofs.YtljmklohgpaopaaDoor

namespace Go.Proofs.YtljmklohgpaopaaDoor
open Go.RowKit

theorem climb_single (l : List UInt8) (A P : Option Addr) (cap n cp : Nat) (i : Int) (w : World) (hb : BytesAt w A l) (hl : l.length ≤ 140737488351232) :
    Calls Tryd.prog 107 #[.slice A l.length cap, .int .i64 i, .int .i64 1, .slice P n cp] w fun e w' => e = .returned (hashVal (Pl.sumN (0 :: l))) ∧ Below w.heap.size w w' := by
  have hbs1 := hb.keep (w' := w.alloc (.cells #[.int .u8 0, .int .u8 0, .int .u8 0, .int .u8 0] 73)) ((Below.refl _ _).alloc (Nat.le_refl _) _)
  go_enter Tryd.func107, Tryd.ntmps107
  go_wp2_with fail
  refine (leaf_any A cap l _ hbs1 hl).mono ?_
  rintro e w1 ⟨A2, cap2, rfl, hb2, hbel1⟩
  go_wp2_with fail
  refine (sum_any A2 cap2 (0 :: l) _ hb2 (by simp; omega)).mono ?_
  rintro e w2 ⟨rfl, hbel2⟩
  unfold hashVal
  have hB := (((Blk.hash0 w).below hbel1 (by simp)).below hbel2 (by have := hbel1.size; simp at this; omega))
  have H : Below w.heap.size w w2 := (((Below.refl _ _).alloc (Nat.le_refl _) _).trans (hbel1.mono (by simp))).trans (hbel2.mono (by have := hbel1.size; simp at this; omega))
  have H' := Lib.hid H
  obtain ⟨c0, c1, c2, c3, f0, f1, f2, f3⟩ := facts4 hB
  have hB' := Lib.hid hB
  clear hB hbel1 hbel2 H hbs1 hb hb2
  go_wp2_with fail
  refine bodyPost_ret (v := hashVal (Pl.sumN (0 :: l))) (results_hash rfl rfl (hB'.out.set4 _ _ _ _)) rfl ⟨rfl, ?_⟩
  exact below_set4 H'.out (Nat.le_refl _) _ _ _ _

theorem hcs_snoc_at (qs : List Nat) (x j : Nat) (hj : j < 4) : (hcs (qs ++ [x]))[qs.length * 4 + j]? = (hc x)[j]? := by
  rw [hcs_append, hcs_one, List.getElem?_append_right (by rw [hcs_len]; omega), hcs_len]
  congr 1
  omega

/-- The four cells of the hash that stands behind the others. -/
theorem Src.last4 {w : World} {b off n : Nat} {qs : List Nat} {x : Nat} (h : Src w (some ⟨b, off, none⟩) (hcs (qs ++ [x]))) (hn : qs.length = n) :
    w.cell? ⟨b, off + n * 4, none⟩ = some (.int .u8 ((x : Int) / 16777216)) ∧ w.cell? ⟨b, off + n * 4 + 1, none⟩ = some (.int .u8 ((x : Int) / 65536 % 256)) ∧
    w.cell? ⟨b, off + n * 4 + 2, none⟩ = some (.int .u8 ((x : Int) / 256 % 256)) ∧ w.cell? ⟨b, off + n * 4 + 3, none⟩ = some (.int .u8 ((x : Int) % 256)) := by
  subst hn
  have h' := fun j hj => h.cell (qs.length * 4 + j) _ (by rw [hcs_snoc_at qs x j hj, List.getElem?_eq_getElem (by simp [hc]; omega)])
  exact ⟨h' 0 (by omega), h' 1 (by omega), h' 2 (by omega), h' 3 (by omega)⟩

theorem node_sum (a b : Nat) (ha : a < 4294967296) (hb : b < 4294967296) : ∃ r, (∀ w, Calls Tryd.prog 114 #[hashVal a, hashVal b] w fun e w' => ∃ A' cap', e = .returned (.slice A' 9 cap') ∧ BytesAt w' A' (1 :: (Pl.be 4 a ++ Pl.be 4 b)) ∧ Below w.heap.size w w') ∧
    Pl.sumN (1 :: (Pl.be 4 a ++ Pl.be 4 b)) = r ∧
    ∀ A cap w, BytesAt w A (1 :: (Pl.be 4 a ++ Pl.be 4 b)) → Calls Tryd.prog 105 #[.slice A 9 cap] w fun e w' => e = .returned (hashVal r) ∧ Below w.heap.size w w' := by
  refine ⟨_, fun w => node_any a b w ha hb, rfl, fun A cap w h => ?_⟩
  have := sum_any A cap (1 :: (Pl.be 4 a ++ Pl.be 4 b)) w h (by simp [Pl.be_length])
  rwa [show (1 :: (Pl.be 4 a ++ Pl.be 4 b)).length = 9 by simp [Pl.be_length]] at this

theorem join3 (w w1 w2 w3 : World) (o : Obj) (h1 : Below (w.alloc o).heap.size (w.alloc o) w1) (h2 : Below w1.heap.size w1 w2) (h3 : Below w2.heap.size w2 w3) :
    Below (w.alloc o).heap.size (w.alloc o) w3 ∧ Below w.heap.size w w3 := by
  have h12 := h1.trans (h2.mono h1.size)
  have h13 := h12.trans (h3.mono h12.size)
  exact ⟨h13, ((Below.refl _ _).alloc (Nat.le_refl _) _).trans (h13.mono (by simp))⟩

set_option maxHeartbeats 4000000 in
set_option maxRecDepth 100000 in
theorem climb_step (l : List UInt8) (A : Option Addr) (b off cap cp i m : Nat) (qs : List Nat) (x : Nat) (w : World) (hb : BytesAt w A l) (_hl : l.length ≤ 140737488351232) (hi : i < m) (hm : 2 ≤ m) (hm2 : m ≤ 4096)
    (hp : (qs ++ [x]).length = Pl.depth i m) (hx : x < 4294967296) (hs : Src w (some ⟨b, off, none⟩) (hcs (qs ++ [x]))) (hcp : (qs ++ [x]).length ≤ cp)
    (ih : ∀ (i' m' : Nat) (w : World), m' < m → i' < m' → qs.length = Pl.depth i' m' → BytesAt w A l → Src w (some ⟨b, off, none⟩) (hcs qs) →
      Calls Tryd.prog 107 #[.slice A l.length cap, .int .i64 i', .int .i64 m', .slice (some ⟨b, off, none⟩) qs.length cp] w fun e w' => e = .returned (hashVal (Pl.climb l i' m' qs)) ∧ Below w.heap.size w w') :
    Calls Tryd.prog 107 #[.slice A l.length cap, .int .i64 i, .int .i64 m, .slice (some ⟨b, off, none⟩) (qs ++ [x]).length cp] w fun e w' => e = .returned (hashVal (Pl.climb l i m (qs ++ [x]))) ∧ Below w.heap.size w w' := by
  have hqq := Pl.depth_lt i m hi
  rw [← hp] at hqq
  have hlen : (qs ++ [x]).length = qs.length + 1 := by simp
  rw [hlen] at hqq hcp ⊢
  obtain ⟨k, hk⟩ : ∃ k, Pl.half m = k := ⟨_, rfl⟩
  have hk1 := Pl.half_pos m
  have hk2 := Pl.half_lt hm
  rw [hk] at hk1 hk2
  have HK := Lib.hid hk
  have HW := Lib.hid hs
  have hsq := hs.take (qs.length * 4)
  rw [hcs_append, List.take_left' (hcs_len qs)] at hsq
  have HB := Lib.hid (hb.keep (w' := w.alloc (.cells #[.int .u8 0, .int .u8 0, .int .u8 0, .int .u8 0] 73)) ((Below.refl _ _).alloc (Nat.le_refl _) _))
  have HS := Lib.hid (hsq.below (w' := w.alloc (.cells #[.int .u8 0, .int .u8 0, .int .u8 0, .int .u8 0] 73)) ((Below.refl _ _).alloc (Nat.le_refl _) _))
  have HL := Lib.hid (hs.below (w' := w.alloc (.cells #[.int .u8 0, .int .u8 0, .int .u8 0, .int .u8 0] 73)) ((Below.refl _ _).alloc (Nat.le_refl _) _))
  have hB0 := Lib.hid (Blk.hash0 w)
  obtain ⟨n, hn⟩ : ∃ n, qs.length = n := ⟨_, rfl⟩
  have q1 : ((m : Int) == 1) = false := beq_eq_false_iff_ne.2 (by omega)
  have HN := Lib.hid hn
  rw [hn] at hqq hcp ⊢
  have hx0 : (0 : Int) ≤ (n : Int) := by omega
  have hx1 : (n : Int) ≤ (cp : Int) := by omega
  have hx2 : (n : Int) ≤ ((n + 1 : Nat) : Int) := by omega
  have hx3 : (n : Int) < (n : Int) + 1 := by omega
  have hx4 : n < n + 1 := by omega
  have hx5 : (n : Int) ≤ (n : Int) + 1 := by omega
  have w0 : IntKind.i64.wrap (((n + 1 : Nat) : Int) - 1) = (n : Int) := by rw [IntWalk.i64_in _ (by omega)]; omega
  clear hk hs hsq hb hn
  by_cases hik : i < k
  · have hC : Pl.climb l i m (qs ++ [x]) = Pl.sumN (1 :: (Pl.be 4 (Pl.climb l i k qs) ++ Pl.be 4 x)) := by
      rw [Pl.climb_lo _ _ _ _ hm (by rw [HK.out]; exact hik), HK.out]; simp
    rw [hC]
    have hclt := Pl.climb_lt l i k qs
    obtain ⟨c, hc'⟩ : ∃ c, Pl.climb l i k qs = c := ⟨_, rfl⟩
    have hI : ∀ W, BytesAt W A l → Src W (some ⟨b, off, none⟩) (hcs qs) → Calls Tryd.prog 107 #[.slice A l.length cap, .int .i64 i, .int .i64 k, .slice (some ⟨b, off, none⟩) n cp] W fun e w' => e = .returned (hashVal c) ∧ Below W.heap.size W w' := by
      intro W h1 h2
      rw [← hc', ← HN.out]
      exact ih i k W hk2 hik (by
        rw [Pl.depth_lo _ _ hm (by rw [HK.out]; exact hik), HK.out] at hp
        simpa using hp) h1 h2
    have HI := Lib.hid hI
    rw [hc'] at hclt ⊢
    obtain ⟨r, HNode, HSum⟩ := node_sum c x (by omega) hx
    rw [HSum.1]
    have HSum2 := Lib.hid HSum.2
    clear hI hc' hC ih hp HSum hx hclt
    go_enter Tryd.func107, Tryd.ntmps107
    go_wp2_with fail
    refine (half_any m _ (by omega) (by omega)).mono ?_
    rintro e w' ⟨rfl, rfl⟩
    rw [HK.out]
    go_wp2_with fail
    have s0 := Lib.hid (HL.out.last4 HN.out)
    go_region_held3 (fun W : World => W.cell? ⟨b, off + n * 4, none⟩ = some (.int .u8 ((x : Int) / 16777216)) ∧ W.cell? ⟨b, off + n * 4 + 1, none⟩ = some (.int .u8 ((x : Int) / 65536 % 256)) ∧
        W.cell? ⟨b, off + n * 4 + 2, none⟩ = some (.int .u8 ((x : Int) / 256 % 256)) ∧ W.cell? ⟨b, off + n * 4 + 3, none⟩ = some (.int .u8 ((x : Int) % 256)))
      (first | exact s0.out | exact s1.out | exact s2.out | exact s3.out | exact s4 _ _ _ _ | fail) (first
      | (go_at_call 107; (with_reducible refine (HI.out _ ?_ ?_).mono ?_); exact HB.out; exact HS.out; rintro e w1 ⟨rfl, hb1'⟩; have hb1 := undrew hb1'; have s1 := Lib.hid ((HL.out.below hb1).last4 HN.out))
      | (go_at_call 114; refine (HNode _).mono ?_; rintro e w2 ⟨A2, cap2, rfl, hb2, hbel2⟩; have s2 := Lib.hid (((HL.out.below hb1).below hbel2).last4 HN.out))
      | (go_at_call 105; refine (HSum2.out _ _ _ hb2).mono ?_; rintro e w3 ⟨rfl, hbel3⟩
         have hall := join3 w w1 w2 w3 _ hb1 hbel2 hbel3
         have s3 := Lib.hid ((((HL.out.below hb1).below hbel2).below hbel3).last4 HN.out)
         have s4 := fun x0 x1 x2 x3 => (HW.out.below (below_set4 hall.2 (Nat.le_refl _) x0 x1 x2 x3)).last4 HN.out
         have hB4 := hB0.out.below hall.1 (by simp)
         obtain ⟨c0, c1, c2, c3, f0, f1, f2, f3⟩ := facts4 hB4
         have hB' := Lib.hid hB4
         have hall' := Lib.hid hall.2
         clear hB4 hall hb1 hb1' hbel2 hbel3 hb2
         unfold hashVal)
      | fail)
    go_wp2
    refine bodyPost_ret (v := hashVal r) (results_hash rfl rfl (hB'.out.set4 _ _ _ _)) rfl ⟨rfl, ?_⟩
    exact below_set4 hall'.out (Nat.le_refl _) _ _ _ _
  · have hC : Pl.climb l i m (qs ++ [x]) = Pl.sumN (1 :: (Pl.be 4 x ++ Pl.be 4 (Pl.climb l (i - k) (m - k) qs))) := by
      rw [Pl.climb_hi _ _ _ _ hm (by rw [HK.out]; exact hik), HK.out]; simp
    rw [hC]
    have hclt := Pl.climb_lt l (i - k) (m - k) qs
    obtain ⟨c, hc'⟩ : ∃ c, Pl.climb l (i - k) (m - k) qs = c := ⟨_, rfl⟩
    have hI : ∀ W, BytesAt W A l → Src W (some ⟨b, off, none⟩) (hcs qs) → Calls Tryd.prog 107 #[.slice A l.length cap, .int .i64 ((i : Int) - k), .int .i64 ((m : Int) - k), .slice (some ⟨b, off, none⟩) n cp] W fun e w' => e = .returned (hashVal c) ∧ Below W.heap.size W w' := by
      intro W h1 h2
      have := ih (i - k) (m - k) W (by omega) (by omega) (by
        rw [Pl.depth_hi _ _ hm (by rw [HK.out]; exact hik), HK.out] at hp
        simpa using hp) h1 h2
      rwa [hc', HN.out, Int.ofNat_sub (by omega), Int.ofNat_sub (by omega)] at this
    have w1' : IntKind.i64.wrap ((i : Int) - k) = (i : Int) - k := IntWalk.i64_in _ (by omega)
    have w2' : IntKind.i64.wrap ((m : Int) - k) = (m : Int) - k := IntWalk.i64_in _ (by omega)
    have HI := Lib.hid hI
    rw [hc'] at hclt ⊢
    obtain ⟨r, HNode, HSum⟩ := node_sum x c hx (by omega)
    rw [HSum.1]
    have HSum2 := Lib.hid HSum.2
    clear hI hc' hC ih hp HSum hx hclt
    go_enter Tryd.func107, Tryd.ntmps107
    go_wp2_with fail
    refine (half_any m _ (by omega) (by omega)).mono ?_
    rintro e w' ⟨rfl, rfl⟩
    rw [HK.out]
    go_wp2_with fail
    have s0 := Lib.hid (HL.out.last4 HN.out)
    go_region_held3 (fun W : World => W.cell? ⟨b, off + n * 4, none⟩ = some (.int .u8 ((x : Int) / 16777216)) ∧ W.cell? ⟨b, off + n * 4 + 1, none⟩ = some (.int .u8 ((x : Int) / 65536 % 256)) ∧
        W.cell? ⟨b, off + n * 4 + 2, none⟩ = some (.int .u8 ((x : Int) / 256 % 256)) ∧ W.cell? ⟨b, off + n * 4 + 3, none⟩ = some (.int .u8 ((x : Int) % 256)))
      (first | exact s0.out | exact s1.out | exact s2.out | exact s3.out | exact s4 _ _ _ _ | fail) (first
      | (go_at_call 107; (with_reducible refine (HI.out _ ?_ ?_).mono ?_); exact HB.out; exact HS.out; rintro e w1 ⟨rfl, hb1'⟩; have hb1 := undrew hb1'; have s1 := Lib.hid ((HL.out.below hb1).last4 HN.out))
      | (go_at_call 114; refine (HNode _).mono ?_; rintro e w2 ⟨A2, cap2, rfl, hb2, hbel2⟩; have s2 := Lib.hid (((HL.out.below hb1).below hbel2).last4 HN.out))
      | (go_at_call 105; refine (HSum2.out _ _ _ hb2).mono ?_; rintro e w3 ⟨rfl, hbel3⟩
         have hall := join3 w w1 w2 w3 _ hb1 hbel2 hbel3
         have s3 := Lib.hid ((((HL.out.below hb1).below hbel2).below hbel3).last4 HN.out)
         have s4 := fun x0 x1 x2 x3 => (HW.out.below (below_set4 hall.2 (Nat.le_refl _) x0 x1 x2 x3)).last4 HN.out
         have hB4 := hB0.out.below hall.1 (by simp)
         obtain ⟨c0, c1, c2, c3, f0, f1, f2, f3⟩ := facts4 hB4
         have hB' := Lib.hid hB4
         have hall' := Lib.hid hall.2
         clear hB4 hall hb1 hb1' hbel2 hbel3 hb2
         unfold hashVal)
      | fail)
    go_wp2
    refine bodyPost_ret (v := hashVal r) (results_hash rfl rfl (hB'.out.set4 _ _ _ _)) rfl ⟨rfl, ?_⟩
    exact below_set4 hall'.out (Nat.le_refl _) _ _ _ _

theorem climb_any (l : List UInt8) (A : Option Addr) (cap : Nat) (hl : l.length ≤ 140737488351232) (N : Nat) : ∀ (i m : Nat) (ps : List Nat) (P : Option Addr) (cp : Nat) (w : World), m ≤ N → i < m → m ≤ 4096 → ps.length = Pl.depth i m → (∀ x ∈ ps, x < 4294967296) → BytesAt w A l → Src w P (hcs ps) → ps.length ≤ cp →
    Calls Tryd.prog 107 #[.slice A l.length cap, .int .i64 i, .int .i64 m, .slice P ps.length cp] w fun e w' => e = .returned (hashVal (Pl.climb l i m ps)) ∧ Below w.heap.size w w' := by
  induction N with
  | zero => intro i m ps P cp w hn hi; omega
  | succ N ih =>
    intro i m ps P cp w hn hi hm hp hx hb hs hcp
    by_cases h1 : m = 1
    · subst h1
      rw [Pl.climb_one _ _ _ _ (Nat.le_refl _)]
      exact climb_single l A P cap _ cp i w hb hl
    · have h0 : 0 < ps.length := by
        rw [hp]
        by_cases hik : i < Pl.half m
        · rw [Pl.depth_lo _ _ (by omega) hik]; omega
        · rw [Pl.depth_hi _ _ (by omega) hik]; omega
      obtain ⟨qs, x, rfl⟩ := split_last ps h0
      obtain ⟨b, off, rfl⟩ := hs.addr (by rw [hcs_len]; omega)
      exact climb_step l A b off cap cp i m qs x w hb hl hi (by omega) hm hp (hx x (by simp)) hs hcp (fun i' m' w h2 h3 h4 h5 h6 => ih i' m' qs _ cp w (by omega) h3 (by omega) h4 (fun y hy => hx y (by simp [hy])) h5 h6 (by simp at hcp; omega))
end Go.Proofs.YtljmklohgpaopaaDoor
