/- Bytes that a call owns, and what is appended to them; the codec's short, Value. The codec's Value, Row, Columns: bytes that are laid down. A tree's pages in memory; what their sizes are. The codec's Columns: bytes that are laid down. The codec's Op.Text. A tree's pages: an inner one's size, small, a leaf's text. -/
import Derived.Test.YtljmklohgpaopaaGreatDoorMgPlanted6
import Derived.Lib.AppendStr
import Derived.Test.YtljmklohgpaopaaGreatDoorMgPlanted4
import Derived.Test.YtljmklohgpaopaaGreatDoorMgPlanted5
set_option linter.unusedVariables false
set_option linter.unusedSimpArgs false

namespace Go.Proofs.YtljmklohgpaopaaGreatDoor
open Go.RowKit

section
variable {P : Program} (w : World)
theorem app_str_at (base : Nat) (t u ty e : TypeId) (i : TypeInfo) (ht : P.underlying t = some (.slice e)) (hu : P.underlying u = some .string) (hi : P.info? e = some i) (hz : i.zero = some (.int .u8 0)) (hsize : i.size = 1) (hby : i.bytes = 1)
    (v : Value) (n : Nat) (xs : List Value) (hown : w.ownsRow base e 1 v n xs) (s : ByteArray) (hb : n + s.size ≤ 140737488355328) {v' : Value} {w' : World}
    (hr : (Builtin.append_ #[t, u] ty #[v, .string s]).run P w = .ok v' w') : v'.ownBlock = v.ownBlock ∨ v'.ownBlock = some w.heap.size := by
  have hxl : xs.length = n := by simpa using hown.1
  rcases hown.2 with ⟨rfl, rfl⟩ | ⟨g, cap, cur, rfl, hbg, hg, hnc, hcm, hcs, htake⟩
  · by_cases hm : s.size = 0
    · have hf := Lib.run_firstCells_string (P := P) w 1 s
      rw [hm] at hf
      have : (Builtin.append_ #[t, u] ty #[.slice none 0 0, .string s]).run P w = .ok (.slice none 0 0) w := by
        simp [Builtin.append_, run_underlying ht, run_underlying hu, sizeOf, typeInfo, hi, hsize, Builtin.lenOf, hm, hf]
      rw [this] at hr
      injection hr with h1 _
      subst h1
      exact .inl rfl
    · rw [run_append_nil_string (P := P) w t u ty e i (.int .u8 0) ht hu hi hz s (by omega) (by omega) (by rw [hby]; omega)] at hr
      injection hr with h1 _
      subst h1
      exact .inr rfl
  · by_cases hroom : n + s.size ≤ cap
    · have hcz : cur.size = cap := by simpa using hcs
      rw [Lib.run_append_room_string (P := P) w t u ty e i ht hu hi hsize g n cap cur hg s hroom (by omega)] at hr
      injection hr with h1 _
      subst h1
      exact .inl rfl
    · rw [Lib.run_append_grow_string (P := P) w t u ty e i (.int .u8 0) ht hu hi hz ⟨g, 0, none⟩ n cap xs (by rw [hsize]; simpa using hxl) (hown.cells (g := g) rfl) s (by omega) (by omega) (by rw [hby]; exact growslice_fits (by omega) (by omega))] at hr
      injection hr with h1 _
      subst h1
      exact .inr rfl
end
/-- Bytes that the call owns. -/
def Ob (w : World) (base : Nat) (v : Value) (l : List UInt8) : Prop := w.ownsRow base 5 1 v l.length (bv l)
/-- What an append does: only v's row, or a new one. -/
def Mv (w w' : World) (v v' : Value) : Prop := w.grownBy w' v.ownBlock ∧ ∀ k, k < w.heap.size → v.ownBlock ≠ some k → v'.ownBlock ≠ some k
theorem Mv.refl (w : World) (v : Value) : Mv w w v v := ⟨⟨rfl, rfl, rfl, Nat.le_refl _, fun _ _ _ => rfl⟩, fun _ _ h => h⟩
theorem Mv.trans {a b c : World} {u v x : Value} (h : Mv a b u v) (k : Mv b c v x) : Mv a c u x :=
  ⟨⟨k.1.os.trans h.1.os, k.1.tape.trans h.1.tape, k.1.output.trans h.1.output, Nat.le_trans h.1.size k.1.size, fun i hi hn =>
    (k.1.block i (Nat.lt_of_lt_of_le hi h.1.size) (fun e => h.2 i hi (fun e => hn e.symm) e.symm)).trans (h.1.block i hi hn)⟩, fun i hi hn => k.2 i (Nat.lt_of_lt_of_le hi h.1.size) (h.2 i hi hn)⟩
theorem Mv.below {a b c : World} {u v : Value} (h : Mv a b u v) (k : Below b.heap.size b c) : Mv a c u v :=
  ⟨⟨k.os.trans h.1.os, k.tape.trans h.1.tape, k.output.trans h.1.output, Nat.le_trans h.1.size k.size, fun i hi hn => (k.block i (Nat.lt_of_lt_of_le hi h.1.size)).trans (h.1.block i hi hn)⟩, h.2⟩
theorem Mv.alloc {a b : World} {u v : Value} (h : Mv a b u v) (o : Obj) : Mv a (b.alloc o) u v := h.below ((Below.refl _ _).alloc (Nat.le_refl _) _)
theorem Mv.drew {a b : World} {u v : Value} (h : Mv a b u v) : Mv a b.drew u v := ⟨⟨h.1.os, h.1.tape, h.1.output, h.1.size, h.1.block⟩, h.2⟩
theorem Mv.only {a b : World} {u v : Value} (h : Mv a b u v) : Only (fun k => u.ownBlock = some k) a b := ⟨h.1.os, h.1.tape, h.1.output, h.1.size, fun k hk hn => h.1.block k hk (fun e => hn e.symm)⟩
theorem Mv.belowB {a b : World} {u v : Value} {base : Nat} {l : List UInt8} (h : Mv a b u v) (ho : Ob a base u l) (hb : base ≤ a.heap.size) : Below base a b := h.only.toBelow hb (fun k hk e => by have := (ho.lt k e).1; omega)
theorem Mv.before {a b c : World} {u v : Value} {base : Nat} {l : List UInt8} (h : Below a.heap.size a b) (k : Mv b c u v) (ho : Ob a base u l) : Mv a c u v :=
  ⟨⟨k.1.os.trans h.os, k.1.tape.trans h.tape, k.1.output.trans h.output, Nat.le_trans h.size k.1.size, fun i hi hn => (k.1.block i (Nat.lt_of_lt_of_le hi h.size) hn).trans (h.block i hi)⟩, fun i hi hn => k.2 i (Nat.lt_of_lt_of_le hi h.size) hn⟩
theorem Ob.alloc {w : World} {base : Nat} {v : Value} {l : List UInt8} (h : Ob w base v l) (o : Obj) : Ob (w.alloc o) base v l := World.ownsRow.alloc h o
theorem Ob.bytes {w : World} {base : Nat} {v : Value} {l : List UInt8} (h : Ob w base v l) : ∃ A cap, v = .slice A l.length cap ∧ l.length ≤ cap ∧ BytesAt w A l ∧ ∀ p, A = some p → base ≤ p.block ∧ p.block < w.heap.size := by
  obtain ⟨A, cap, h1, h2, h3, h4⟩ := own_src h
  exact ⟨A, cap, h1, h2, h3.bytes, fun p hp => h.lt _ (h4 p hp)⟩
/-- A call that lays bytes behind others. -/
def Wr (w : World) (base : Nat) (v : Value) (l : List UInt8) (e : Ending) (w' : World) : Prop := ∃ v', e = .returned v' ∧ Ob w' base v' l ∧ Mv w w' v v'

section
variable {ops : Array Oper} {rest : List Oper} {o : Oper} {a : Act} {K : Act → World → Prop} {Q : Exit → Act → World → Prop} {w : World} {E : Prop}
theorem wp_ob (s x : Operand) (ho : o.op = .call { callee := .builtin .append, args := #[s, x], argTypes := #[25, 25] }) {base : Nat} {v : Value} {l : List UInt8} (hs : a.eval s = v) (hown : Ob w base v l)
    (A : Option Addr) (m c : Nat) (news : List UInt8) (hx : a.eval x = .slice A m c) (hm : news.length = m) (hr : Src w A (bv news)) (hl : l.length + m ≤ 70368744177664) (hb : base ≤ w.heap.size)
    (h : ∀ v' w', Ob w' base v' (l ++ news) → Mv w w' v v' → K (a.put o.dst v') w') : o.wp Tryz.prog a w K Q := by
  obtain ⟨i0, hi, hz0, hz1, hz2⟩ := info_parts Tryz.infoByte
  subst hm
  refine wp_append_src w s x 25 ho base 5 i0 (.int .u8 0) 1 1 Tryz.underlying25 hi hz0 hz1 hz2 rfl (by decide) v l.length (bv l) hs hown A news.length c (bv news) hx (by simp [bv]) hr (bv_one _) (by simp only [maxLen]; omega) (byte_room (n := l.length) (m := news.length) (by omega)) hb ?_
  intro v' w' h1 h2 h3
  refine h v' w' (by rw [Ob, List.length_append, bv_append]; exact h1) ⟨h2, fun k hk hn => ?_⟩
  rcases h3 with e | e
  · rw [e]; exact hn
  · rw [e]; intro e; injection e; omega
theorem wpList_ob (hgd : o.guard = none) (s x : Operand) (ho : o.op = .call { callee := .builtin .append, args := #[s, x], argTypes := #[25, 25] }) {base : Nat} {v : Value} {l : List UInt8} (hs : a.eval s = v) (hown : Ob w base v l)
    (A : Option Addr) (m c : Nat) (news : List UInt8) (hx : a.eval x = .slice A m c) (hm : news.length = m) (hr : Src w A (bv news)) (hl : l.length + m ≤ 70368744177664) (hb : base ≤ w.heap.size)
    (h : ∀ v' w', Ob w' base v' (l ++ news) → Mv w w' v v' → wpList Tryz.prog ops Q rest (a.put o.dst v') w') : wpList Tryz.prog ops Q (o :: rest) a w :=
  wpList_plain hgd fun _ hK => wp_ob s x ho hs hown A m c news hx hm hr hl hb fun v' w' h1 h2 => hK _ _ (h v' w' h1 h2)
theorem step_ob (hgd : o.guard = none) (s x : Operand) (ho : o.op = .call { callee := .builtin .append, args := #[s, x], argTypes := #[25, 25] }) {base : Nat} {v : Value} {l : List UInt8} (hs : a.eval s = v) (hown : Ob w base v l)
    (A : Option Addr) (m c : Nat) (news : List UInt8) (hx : a.eval x = .slice A m c) (hm : news.length = m) (hr : Src w A (bv news)) (hl : l.length + m ≤ 70368744177664) (hb : base ≤ w.heap.size)
    (h : ∀ v' w', Ob w' base v' (l ++ news) → Mv w w' v v' → K (a.put o.dst v') w') : if Region.wanted o (yielded ops a.tmps) = true then Oper.wp Tryz.prog o a w K Q else E := by
  rw [if_pos (by simp [Region.wanted, hgd])]
  exact wp_ob s x ho hs hown A m c news hx hm hr hl hb h
theorem wp_obs (s x : Operand) (ho : o.op = .call { callee := .builtin .append, args := #[s, x], argTypes := #[25, 9] }) {base : Nat} {v : Value} {l : List UInt8} (hs : a.eval s = v) (hown : Ob w base v l)
    (news : List UInt8) (hx : a.eval x = .string (tstr news)) (hl : l.length + news.length ≤ 70368744177664) (hb : base ≤ w.heap.size)
    (h : ∀ v' w', Ob w' base v' (l ++ news) → Mv w w' v v' → K (a.put o.dst v') w') : o.wp Tryz.prog a w K Q := by
  obtain ⟨i0, hi, hz0, hz1, hz2⟩ := info_parts Tryz.infoByte
  have hsz := tstr_size news
  obtain ⟨v', w', hr, h2, h3, h4⟩ := Lib.run_append_own_string (P := Tryz.prog) w base 25 9 o.type 5 i0 Tryz.underlying25 Tryz.underlying9 hi hz0 hz1 hz2 v l.length (bv l) hown (tstr news) (by rw [hsz]; simp only [maxLen]; omega) (by rw [hsz]; omega) hb
  have hat := app_str_at (P := Tryz.prog) w base 25 9 o.type 5 i0 Tryz.underlying25 Tryz.underlying9 hi hz0 hz1 hz2 v l.length (bv l) hown (tstr news) (by rw [hsz]; omega) hr
  unfold Oper.wp execOp
  simp only [ho, resolve, invoke, builtin, Sem.run_bind, Sem.run_pure, Result.andThen_ok, List.map_toArray, List.map_cons, List.map_nil, hs, hx, hr]
  refine h v' w' (by rw [Ob, List.length_append, bv_append]; rw [hsz] at h2; exact h2) ⟨h3, fun k hk hn => ?_⟩
  rcases hat with e | e
  · rw [e]; exact hn
  · rw [e]; intro e; injection e; omega
theorem wpList_obs (hgd : o.guard = none) (s x : Operand) (ho : o.op = .call { callee := .builtin .append, args := #[s, x], argTypes := #[25, 9] }) {base : Nat} {v : Value} {l : List UInt8} (hs : a.eval s = v) (hown : Ob w base v l)
    (news : List UInt8) (hx : a.eval x = .string (tstr news)) (hl : l.length + news.length ≤ 70368744177664) (hb : base ≤ w.heap.size)
    (h : ∀ v' w', Ob w' base v' (l ++ news) → Mv w w' v v' → wpList Tryz.prog ops Q rest (a.put o.dst v') w') : wpList Tryz.prog ops Q (o :: rest) a w :=
  wpList_plain hgd fun _ hK => wp_obs s x ho hs hown news hx hl hb fun v' w' h1 h2 => hK _ _ (h v' w' h1 h2)
end

theorem src_one (w : World) (c : Nat) (hc : c < 256) : Src (w.alloc (.cells #[.int .u8 (c : Int)] 5)) (some ⟨w.heap.size, 0, none⟩) (bv [UInt8.ofNat c]) := by
  have : bv [UInt8.ofNat c] = [.int .u8 (c : Int)] := by simp [bv]; omega
  rw [this]
  exact Src.of_blk (Blk.new w 5 _)
end Go.Proofs.YtljmklohgpaopaaGreatDoor

namespace Go.Proofs.YtljmklohgpaopaaGreatDoor
open Go.RowKit

theorem wrap_u8 {n : Nat} (h : n < 256) : IntKind.u8.wrap (n : Int) = n := by rw [IntKind.wrap_u8]; omega
theorem Wr.of_put {w : World} {base n s : Nat} {v : Value} {l x : List UInt8} (hl : l.length = n) (hx : x.length = s) (ho : Ob w base v l) {e : Ending} {w' : World}
    (h : ∃ v', e = .returned v' ∧ w'.ownsRow base 5 1 v' (n + s) (bv (l ++ x)) ∧ Below base w w' ∧ (∀ k, k < w.heap.size → v.ownBlock ≠ some k → w'.heap[k]? = w.heap[k]? ∧ v'.ownBlock ≠ some k)) : Wr w base v (l ++ x) e w' := by
  obtain ⟨v', rfl, h1, h2, h3⟩ := h
  subst hl hx
  exact ⟨v', rfl, by rw [Ob, List.length_append]; exact h1, ⟨h2.os, h2.tape, h2.output, h2.size, fun k hk hn => (h3 k hk (fun e => hn e.symm)).1⟩, fun k hk hn => (h3 k hk hn).2⟩
theorem put_ob (v : Value) (l : List UInt8) (x s base : Nat) (w : World) (hown : Ob w base v l) (hbase : base ≤ w.heap.size) (hx : x < 18446744073709551616) (hs : s ≤ 8) (hs0 : 0 < s) (hn : l.length ≤ 70368744177664) :
    Calls Tryz.prog 130 #[v, .int .u64 x, .int .i64 s] w (Wr w base v (l ++ Pl.be s x)) :=
  (put_any v l.length l x s base w (.inl hown) hbase hx hs hs0 hn).mono fun _ _ h => Wr.of_put rfl (Pl.be_length s x) hown h
theorem flat_at {α β : Type} {f : α → List β} {s : Nat} (hf : ∀ x, (f x).length = s) : ∀ (xs : List α) (k : Nat) (x : α), xs[k]? = some x → ∀ j, j < s → (xs.flatMap f)[k * s + j]? = (f x)[j]?
  | [], k, x, h, j, hj => by cases h
  | a :: r, 0, x, h, j, hj => by
    obtain rfl : a = x := by simpa using h
    rw [List.flatMap_cons, Nat.zero_mul, Nat.zero_add, List.getElem?_append_left (by rw [hf]; exact hj)]
  | a :: r, k + 1, x, h, j, hj => by
    rw [List.flatMap_cons, List.getElem?_append_right (by rw [hf, Nat.succ_mul]; omega), hf, show (k + 1) * s + j - s = k * s + j by rw [Nat.succ_mul]; omega]
    exact flat_at hf r k x (by simpa using h) j hj
theorem flat_succ {α β : Type} (f : α → List β) {xs : List α} {k : Nat} {x : α} (h : xs[k]? = some x) : (xs.take (k + 1)).flatMap f = (xs.take k).flatMap f ++ f x := by
  rw [List.take_add_one, h, List.flatMap_append]
  simp
end Go.Proofs.YtljmklohgpaopaaGreatDoor

namespace Go.Proofs.YtljmklohgpaopaaGreatDoor
open Go.RowKit

/-- A run of cells in a block of this kind. -/
def TSrc (w : World) (A : Option Addr) (cs : List Value) (t : TypeId) : Prop := Src w A cs ∧ ∀ p, A = some p → Typ w p.block t
theorem Typ.only {F : Nat → Prop} {w w' : World} {k : Nat} {t : TypeId} {ts : List TypeId} (h : Typ w k t) (ho : Only F w w') (hF : Kinds F w ts) (ht : t ∉ ts) : Typ w' k t := by
  obtain ⟨cs, fz, hk⟩ := h
  refine ⟨cs, fz, (ho.block k (Array.getElem?_eq_some_iff.1 hk).1 (fun hf => ?_)).trans hk⟩
  obtain ⟨t', h1, h2⟩ := hF k hf
  exact ht (Typ.uniq ⟨cs, fz, hk⟩ h2 ▸ h1)
theorem TSrc.only {F : Nat → Prop} {w w' : World} {A : Option Addr} {cs : List Value} {t : TypeId} {ts : List TypeId} (h : TSrc w A cs t) (ho : Only F w w') (hF : Kinds F w ts) (ht : t ∉ ts) : TSrc w' A cs t :=
  ⟨ho.src h.1 (fun p hp hf => by obtain ⟨t', h1, h2⟩ := hF _ hf; exact ht ((h.2 p hp).uniq h2 ▸ h1)), fun p hp => (h.2 p hp).only ho hF ht⟩
theorem kinds_none (w : World) : Kinds (fun _ => False) w [] := fun _ h => h.elim
theorem TSrc.below {w w' : World} {A : Option Addr} {cs : List Value} {t : TypeId} (h : TSrc w A cs t) (hb : Below w.heap.size w w') : TSrc w' A cs t := h.only (Only.of_below hb (fun _ => False)) (kinds_none w) (by simp)

def prCells (p : Pl.Pr) : List Value := [.string (tstr p.key), .string (tstr p.val)]
def prsCells (ps : List Pl.Pr) : List Value := ps.flatMap prCells
def ksCells (ks : List Pl.Key) : List Value := ks.map fun k => .string (tstr k)
def refV (r : Nat) : Value := .pointer (some ⟨r, 0, none⟩)
def refsCells (rs : List Nat) : List Value := rs.map refV
def LeafAt (w : World) (b : Nat) (ps : List Pl.Pr) : Prop := ∃ A cap, Blk w b 164 [.slice A ps.length cap] ∧ ps.length ≤ cap ∧ TSrc w A (prsCells ps) 175
def InnerAt (w : World) (b : Nat) (ks : List Pl.Key) (rs : List Nat) : Prop :=
  ∃ A cap A' cap', Blk w b 185 [.slice A ks.length cap, .slice A' rs.length cap'] ∧ ks.length ≤ cap ∧ rs.length ≤ cap' ∧ TSrc w A (ksCells ks) 9 ∧ TSrc w A' (refsCells rs) 156
theorem LeafAt.only {F : Nat → Prop} {w w' : World} {b : Nat} {ps : List Pl.Pr} {ts : List TypeId} (h : LeafAt w b ps) (ho : Only F w w') (hF : Kinds F w ts) (h1 : 164 ∉ ts) (h2 : 175 ∉ ts) : LeafAt w' b ps := by
  obtain ⟨A, cap, hb, hc, hs⟩ := h
  exact ⟨A, cap, ho.blk_ hF hb h1, hc, hs.only ho hF h2⟩
theorem InnerAt.only {F : Nat → Prop} {w w' : World} {b : Nat} {ks : List Pl.Key} {rs : List Nat} {ts : List TypeId} (h : InnerAt w b ks rs) (ho : Only F w w') (hF : Kinds F w ts) (h1 : 185 ∉ ts) (h2 : 9 ∉ ts) (h3 : 156 ∉ ts) : InnerAt w' b ks rs := by
  obtain ⟨A, cap, A', cap', hb, hc, hc', hs, hs'⟩ := h
  exact ⟨A, cap, A', cap', ho.blk_ hF hb h1, hc, hc', hs.only ho hF h2, hs'.only ho hF h3⟩
/-- A page, its kids by their blocks. -/
inductive Pg where
  | leaf (ps : List Pl.Pr)
  | inner (ks : List Pl.Key) (rs : List Nat)
def leafV (b : Nat) : Value := .iface 161 (.pointer (some ⟨b, 0, none⟩))
def innerV (b : Nat) : Value := .iface 180 (.pointer (some ⟨b, 0, none⟩))
def PgAt (w : World) (v : Value) : Pg → Prop
  | .leaf ps => ∃ b, v = leafV b ∧ LeafAt w b ps
  | .inner ks rs => ∃ b, v = innerV b ∧ InnerAt w b ks rs
/-- What a page's blocks are. -/
def pageTypes : List TypeId := [164, 175, 185, 9, 156]
theorem PgAt.only {F : Nat → Prop} {w w' : World} {v : Value} {pg : Pg} {ts : List TypeId} (h : PgAt w v pg) (ho : Only F w w') (hF : Kinds F w ts) (ht : ∀ t ∈ pageTypes, t ∉ ts) : PgAt w' v pg := by
  cases pg with
  | leaf ps =>
    obtain ⟨b, rfl, h⟩ := h
    exact ⟨b, rfl, h.only ho hF (ht _ (by simp [pageTypes])) (ht _ (by simp [pageTypes]))⟩
  | inner ks rs =>
    obtain ⟨b, rfl, h⟩ := h
    exact ⟨b, rfl, h.only ho hF (ht _ (by simp [pageTypes])) (ht _ (by simp [pageTypes])) (ht _ (by simp [pageTypes]))⟩
theorem PgAt.below {w w' : World} {v : Value} {pg : Pg} (h : PgAt w v pg) (hb : Below w.heap.size w w') : PgAt w' v pg := h.only (Only.of_below hb (fun _ => False)) (kinds_none w) (by simp)
theorem LeafAt.below {w w' : World} {b : Nat} {ps : List Pl.Pr} (h : LeafAt w b ps) (hb : Below w.heap.size w w') : LeafAt w' b ps := h.only (Only.of_below hb (fun _ => False)) (kinds_none w) (by simp) (by simp)
theorem InnerAt.below {w w' : World} {b : Nat} {ks : List Pl.Key} {rs : List Nat} (h : InnerAt w b ks rs) (hb : Below w.heap.size w w') : InnerAt w' b ks rs := h.only (Only.of_below hb (fun _ => False)) (kinds_none w) (by simp) (by simp) (by simp)

set_option maxHeartbeats 1000000 in
theorem psize_any (p : Pl.Pr) (w : World) (h : Pl.psz p ≤ 1000) :
    Calls Tryz.prog 183 #[.agg #[.string (tstr p.key), .string (tstr p.val)]] w fun e w' => e = .returned (.int .i64 (Pl.psz p : Nat)) ∧ Below w.heap.size w w' := by
  obtain ⟨k, v⟩ := p
  unfold Pl.psz at h ⊢
  dsimp only at h ⊢
  have hk : (tstr k).size = k.length := tstr_size k
  have hv : (tstr v).size = v.length := tstr_size v
  obtain ⟨w1, hw1⟩ : ∃ w1, w.alloc (.cells #[.string (tstr k), .string (tstr v)] 175) = w1 := ⟨_, rfl⟩
  have hb1 : Below w.heap.size w w1 := by rw [← hw1]; exact (Below.refl _ _).alloc (Nat.le_refl _) _
  have B1 : Blk w1 w.heap.size 175 [.string (tstr k), .string (tstr v)] := by rw [← hw1]; exact Blk.new w 175 _
  obtain ⟨c0, c1, _, _⟩ := facts2 B1
  have HB := Lib.hid hb1
  clear hb1 B1
  go_enter Tryz.func183, Tryz.ntmps183
  go_wp2_with fail
  go_ret
  exact ⟨by congr 2, HB.out⟩

theorem prs_take_size {ps : List Pl.Pr} {k : Nat} {p : Pl.Pr} (h : ps[k]? = some p) : Pl.lsz (ps.take (k + 1)) = Pl.lsz (ps.take k) + Pl.psz p := by
  rw [List.take_add_one, h]
  exact Pl.lsz_snoc _ _
theorem lsz_take_le (ps : List Pl.Pr) (k : Nat) : Pl.lsz (ps.take k) ≤ Pl.lsz ps := by
  have := Pl.pwt_sub (List.take_sublist k ps)
  rw [Pl.lsz_pwt, Pl.lsz_pwt]; omega
theorem psz_le_lsz {ps : List Pl.Pr} {p : Pl.Pr} (h : p ∈ ps) : Pl.psz p + 3 ≤ Pl.lsz ps := by
  induction ps with
  | nil => cases h
  | cons a r ih =>
    rcases List.mem_cons.1 h with rfl | h
    · simp [Pl.lsz]; omega
    · have := ih h; simp [Pl.lsz] at this ⊢; omega
theorem len_le_lsz (ps : List Pl.Pr) : ps.length * 2 + 3 ≤ Pl.lsz ps := by
  induction ps with
  | nil => simp [Pl.lsz]
  | cons a r ih => simp [Pl.lsz, Pl.psz] at ih ⊢; omega

set_option maxRecDepth 100000 in
set_option maxHeartbeats 1000000 in
theorem lsize_any (b : Nat) (ps : List Pl.Pr) (w : World) (h : LeafAt w b ps) (hsz : Pl.lsz ps ≤ 1000) :
    Calls Tryz.prog 215 #[.pointer (some ⟨b, 0, none⟩)] w fun e w' => e = .returned (.int .i64 (Pl.lsz ps : Nat)) ∧ Below w.heap.size w w' := by
  obtain ⟨A, cap, hb, hc, hs, ht⟩ := h
  obtain ⟨n, hn⟩ : ∃ n, ps.length = n := ⟨_, rfl⟩
  have hlen := len_le_lsz ps
  have h500 : n ≤ 500 := by omega
  have HN := Lib.hid hn
  have HS := Lib.hid hs
  have HSZ := Lib.hid hsz
  obtain ⟨c0, _⟩ := facts1 hb
  rw [hn] at c0
  clear hs ht hn hb hc hlen hsz
  go_enter Tryz.func215, Tryz.ntmps215
  go_wp2_with fail
  go_loopw [3, 11] (fun t i wr => ∃ k : Nat, k ≤ n ∧ i = .int .i64 (k : Int) ∧ t = .int .i64 (Pl.lsz (ps.take k) : Nat) ∧ Below w.heap.size w wr) (fun _ i _ => n - (intOf i).toNat)
  case atStart => exact ⟨0, Nat.zero_le _, rfl, rfl, Below.refl _ _⟩
  case round =>
    obtain ⟨k, hk, rfl, rfl, hbel⟩ := hrel
    by_cases hkn : k < n
    · have q1 : (k : Int) < (n : Int) := by omega
      obtain ⟨p, hp⟩ : ∃ p, ps[k]? = some p := ⟨_, List.getElem?_eq_getElem (by rw [HN.out]; exact hkn)⟩
      have hpm := List.mem_of_getElem? hp
      have at_ := flat_at (f := prCells) (s := 2) (fun _ => rfl) ps k p hp
      have hsr := HS.out.below hbel
      obtain ⟨b2, off, rfl, g0⟩ := hsr.at_ _ _ (at_ 0 (by omega))
      have g1 := hsr.cell _ _ (at_ 1 (by omega))
      rw [← Nat.add_assoc] at g1
      rw [Nat.add_zero] at g0
      have hsz2 : Hid (Pl.lsz (ps.take (k + 1)) = Pl.lsz (ps.take k) + Pl.psz p) := prs_take_size hp
      have hle := lsz_take_le ps (k + 1)
      have hp1 := psz_le_lsz hpm
      obtain ⟨t, ht⟩ : ∃ t, Pl.lsz (ps.take k) = t := ⟨_, rfl⟩
      obtain ⟨m, hm⟩ : ∃ m, Pl.psz p = m := ⟨_, rfl⟩
      have hbd : t + m ≤ 1000 := by have := hsz2.out; have := HSZ.out; omega
      have HP := Lib.hid (fun W => psize_any p W (by have := HSZ.out; omega))
      rw [ht]
      rw [hm] at HP
      have HT := Lib.hid ht
      have HM := Lib.hid hm
      have HBEL := Lib.hid hbel
      clear at_ hsr hle hp1 hpm hp ht hm hbel
      obtain ⟨b5, hb5⟩ : ∃ b5, wr.heap.size = b5 := ⟨_, rfl⟩
      go_wp2_with fail
      refine (HP.out _).mono ?_
      rintro e w3 ⟨rfl, hb3⟩
      have HB3 := Lib.hid (((Below.refl wr.heap.size wr).alloc (Nat.le_refl _) _).trans (hb3.mono (by simp)))
      clear hb3 g0 g1
      go_wp2_with fail
      go_round
      case rel => exact ⟨k + 1, by omega, by simp, by rw [hsz2.out, HT.out, HM.out]; simp, HBEL.out.trans (HB3.out.mono HBEL.out.size)⟩
      case measure => simp [intOf]; omega
    · go_wp2_with fail
      go_ret
      have : k = n := by omega
      subst this
      have e := List.take_length (l := ps)
      rw [HN.out] at e
      exact ⟨by rw [e]; rfl, hbel⟩
end Go.Proofs.YtljmklohgpaopaaGreatDoor

namespace Go.Proofs.YtljmklohgpaopaaGreatDoor
open Go.RowKit

end Go.Proofs.YtljmklohgpaopaaGreatDoor

namespace Go.Proofs.YtljmklohgpaopaaGreatDoor
open Go.RowKit

end Go.Proofs.YtljmklohgpaopaaGreatDoor

namespace Go.Proofs.YtljmklohgpaopaaGreatDoor
open Go.RowKit

theorem isz_take_size {ks : List Pl.Key} {k : Nat} {x : Pl.Key} (h : ks[k]? = some x) : Pl.isz (ks.take (k + 1)) = Pl.isz (ks.take k) + (5 + x.length) := by
  rw [List.take_add_one, h]
  have := Pl.isz_append (ks.take k) [x]
  have e := Pl.isz_cons x []
  have e0 : Pl.isz [] = 6 := rfl
  simp only [Option.toList_some] at *
  omega
theorem isz_take_le (ks : List Pl.Key) (k : Nat) : Pl.isz (ks.take k) ≤ Pl.isz ks := by
  have := Pl.isz_append (ks.take k) (ks.drop k)
  rw [List.take_append_drop] at this
  have h6 : 6 ≤ Pl.isz (ks.drop k) := by unfold Pl.isz; omega
  omega
theorem len_le_isz (ks : List Pl.Key) : ks.length * 5 + 6 ≤ Pl.isz ks := by
  induction ks with
  | nil => simp [Pl.isz]
  | cons a r ih => simp [Pl.isz] at ih ⊢; omega
theorem ks_at {ks : List Pl.Key} {k : Nat} {x : Pl.Key} (h : ks[k]? = some x) : (ksCells ks)[k]? = some (.string (tstr x)) := by unfold ksCells; rw [List.getElem?_map, h]; rfl
theorem refs_at {rs : List Nat} {k : Nat} {x : Nat} (h : rs[k]? = some x) : (refsCells rs)[k]? = some (refV x) := by unfold refsCells; rw [List.getElem?_map, h]; rfl
theorem key_le_isz {ks : List Pl.Key} {x : Pl.Key} (h : x ∈ ks) : x.length + 11 ≤ Pl.isz ks := by
  induction ks with
  | nil => cases h
  | cons a r ih =>
    rw [Pl.isz_cons]
    rcases List.mem_cons.1 h with rfl | h
    · have h6 : 6 ≤ Pl.isz r := by unfold Pl.isz; omega
      omega
    · have := ih h; omega

set_option maxRecDepth 100000 in
set_option maxHeartbeats 1000000 in
theorem isize_any (b : Nat) (ks : List Pl.Key) (rs : List Nat) (w : World) (h : InnerAt w b ks rs) (hsz : Pl.isz ks ≤ 1000) :
    Calls Tryz.prog 193 #[.pointer (some ⟨b, 0, none⟩)] w fun e w' => e = .returned (.int .i64 (Pl.isz ks : Nat)) ∧ w = w' := by
  obtain ⟨A, cap, A', cap', hb, hc, hc', hs, hs'⟩ := h
  obtain ⟨n, hn⟩ : ∃ n, ks.length = n := ⟨_, rfl⟩
  have hlen := len_le_isz ks
  have h500 : n ≤ 500 := by omega
  have HN := Lib.hid hn
  have HS := Lib.hid hs.1
  have HSZ := Lib.hid hsz
  obtain ⟨c0, c1, _, _⟩ := facts2 hb
  rw [hn] at c0
  clear hs hs' hn hb hc hc' hlen hsz
  go_enter Tryz.func193, Tryz.ntmps193
  go_wp2_with fail
  go_loop [3, 11] (fun t i => ∃ k : Nat, k ≤ n ∧ i = .int .i64 (k : Int) ∧ t = .int .i64 (Pl.isz (ks.take k) : Nat)) (fun _ i => n - (intOf i).toNat)
  case atStart => exact ⟨0, Nat.zero_le _, rfl, rfl⟩
  case round =>
    obtain ⟨k, hk, rfl, rfl⟩ := hrel
    by_cases hkn : k < n
    · have q1 : (k : Int) < (n : Int) := by omega
      obtain ⟨x, hx⟩ : ∃ p, ks[k]? = some p := ⟨_, List.getElem?_eq_getElem (by rw [HN.out]; exact hkn)⟩
      have hxm := List.mem_of_getElem? hx
      obtain ⟨b2, off, rfl, g0⟩ := HS.out.at_ _ _ (ks_at hx)
      have hsz2 : Hid (Pl.isz (ks.take (k + 1)) = Pl.isz (ks.take k) + (5 + x.length)) := isz_take_size hx
      have hle := isz_take_le ks (k + 1)
      have hp1 := key_le_isz hxm
      have hxs : (tstr x).size = x.length := tstr_size x
      obtain ⟨t, ht⟩ : ∃ t, Pl.isz (ks.take k) = t := ⟨_, rfl⟩
      have hbd : t + x.length ≤ 1000 := by have := hsz2.out; have := HSZ.out; omega
      rw [ht]
      have HT := Lib.hid ht
      clear hle hp1 hxm hx ht
      go_wp2_with fail
      go_round
      case rel => exact ⟨k + 1, by omega, by simp, by rw [hsz2.out, HT.out]; simp⟩
      case measure => simp [intOf]; omega
    · go_wp2_with fail
      go_ret
      have : k = n := by omega
      subst this
      have e := List.take_length (l := ks)
      rw [HN.out] at e
      exact ⟨by rw [e]; rfl, rfl⟩
theorem Tryz.methodLeafSize (a : Addr) (w : World) : (Go.method 442 161 (.pointer (some a)) "daybook/tree.size").run Tryz.prog w = .ok (215, .pointer (some a)) w := by kernel_rfl
theorem Tryz.methodInnerSize (a : Addr) (w : World) : (Go.method 442 180 (.pointer (some a)) "daybook/tree.size").run Tryz.prog w = .ok (193, .pointer (some a)) w := by kernel_rfl
theorem Tryz.methodLeafText (a : Addr) (w : World) : (Go.method 442 161 (.pointer (some a)) "daybook/tree.text").run Tryz.prog w = .ok (216, .pointer (some a)) w := by kernel_rfl
theorem Tryz.methodInnerText (a : Addr) (w : World) : (Go.method 442 180 (.pointer (some a)) "daybook/tree.text").run Tryz.prog w = .ok (217, .pointer (some a)) w := by kernel_rfl
set_option maxRecDepth 100000 in
theorem small_leaf (b : Nat) (ps : List Pl.Pr) (w : World) (h : LeafAt w b ps) (hsz : Pl.lsz ps ≤ 1000) :
    Calls Tryz.prog 184 #[leafV b] w fun e w' => e = .returned (.bool (decide (Pl.lsz ps < 85))) ∧ Below w.heap.size w w' := by
  have H := Lib.hid (lsize_any b ps w h hsz)
  have M1 := Tryz.methodLeafSize
  obtain ⟨n, hn⟩ : ∃ n, Pl.lsz ps = n := ⟨_, rfl⟩
  rw [hn] at H ⊢
  clear h hsz hn
  unfold leafV
  cases hd : decide (n < 85)
  all_goals
    have hd' : decide ((n : Int) < 85) = decide (n < 85) := by congr 1; exact propext (by omega)
    rw [hd] at hd'
    have HD := Lib.hid hd
    clear hd
    go_enter Tryz.func184, Tryz.ntmps184
    go_wp2_with fail
    refine H.out.mono ?_
    rintro e w1 ⟨rfl, hb⟩
    have HB := Lib.hid hb
    clear hb
    go_wp2_with fail
    go_ret
    exact ⟨rfl, HB.out⟩
set_option maxRecDepth 100000 in
theorem small_inner (b : Nat) (ks : List Pl.Key) (rs : List Nat) (w : World) (h : InnerAt w b ks rs) (hsz : Pl.isz ks ≤ 1000) :
    Calls Tryz.prog 184 #[innerV b] w fun e w' => e = .returned (.bool (decide (Pl.isz ks < 85))) ∧ w = w' := by
  have H := Lib.hid (isize_any b ks rs w h hsz)
  have M1 := Tryz.methodInnerSize
  obtain ⟨n, hn⟩ : ∃ n, Pl.isz ks = n := ⟨_, rfl⟩
  rw [hn] at H ⊢
  clear h hsz hn
  unfold innerV
  cases hd : decide (n < 85)
  all_goals
    have hd' : decide ((n : Int) < 85) = decide (n < 85) := by congr 1; exact propext (by omega)
    rw [hd] at hd'
    have HD := Lib.hid hd
    clear hd
    go_enter Tryz.func184, Tryz.ntmps184
    go_wp2_with fail
    refine H.out.mono ?_
    rintro e w1 ⟨rfl, rfl⟩
    go_wp2_with fail
    go_ret
    exact ⟨rfl, rfl⟩
section
variable {ops : Array Oper} {o : Oper} {a : Act} {K : Act → World → Prop} {Q : Exit → Act → World → Prop} {w : World} {E : Prop}
theorem step_obs (hgd : o.guard = none) (s x : Operand) (ho : o.op = .call { callee := .builtin .append, args := #[s, x], argTypes := #[25, 9] }) {base : Nat} {v : Value} {l : List UInt8} (hs : a.eval s = v) (hown : Ob w base v l)
    (news : List UInt8) (hx : a.eval x = .string (tstr news)) (hl : l.length + news.length ≤ 70368744177664) (hb : base ≤ w.heap.size)
    (h : ∀ v' w', Ob w' base v' (l ++ news) → Mv w w' v v' → K (a.put o.dst v') w') : if Region.wanted o (yielded ops a.tmps) = true then Oper.wp Tryz.prog o a w K Q else E := by
  rw [if_pos (by simp [Region.wanted, hgd])]
  exact wp_obs s x ho hs hown news hx hl hb h
end
theorem ready_lit (w : World) (c : Nat) (hc : c < 256) : Ready (w.alloc (.cells #[.int .u8 (c : Int)] 5 (1, 2))) w.heap.size 5 1 (.slice (some ⟨w.heap.size, 0, none⟩) 1 1) 1 (bv [UInt8.ofNat c]) := by
  refine .inr ⟨rfl, _, _, rfl, .inr ⟨_, _, rfl, fun j u hu => ?_⟩⟩
  rw [Nat.zero_add, cell_of_row _ _ _ _ _ _ (heap_alloc_new w _)]
  have : bv [UInt8.ofNat c] = [.int .u8 (c : Int)] := by simp [bv]; omega
  rw [this] at hu
  simpa using hu
theorem encPrs_len (ps : List Pl.Pr) : (ps.flatMap Pl.encPr).length + 3 = Pl.lsz ps := by
  induction ps with
  | nil => rfl
  | cons a r ih =>
    rw [List.flatMap_cons, List.length_append]
    simp [Pl.lsz, Pl.encPr, Pl.short, Pl.psz] at ih ⊢
    omega

set_option maxRecDepth 100000 in
set_option maxHeartbeats 2000000 in
theorem ltext_any (b : Nat) (ps : List Pl.Pr) (w : World) (h : LeafAt w b ps) (hsz : Pl.lsz ps ≤ 1000) (hp : ∀ p ∈ ps, p.key.length < 256 ∧ p.val.length < 256) :
    Calls Tryz.prog 216 #[.pointer (some ⟨b, 0, none⟩)] w fun e w' => e = .returned (.string (tstr (Pl.leafText ps))) ∧ Below w.heap.size w w' := by
  obtain ⟨A, cap, hb, hc, hs, ht⟩ := h
  obtain ⟨n, hn⟩ : ∃ n, ps.length = n := ⟨_, rfl⟩
  have hlen := len_le_lsz ps
  have h500 : n ≤ 500 := by omega
  obtain ⟨w0, hw0⟩ : ∃ w0, w.alloc (.cells #[.int .u8 108] 5 (1, 2)) = w0 := ⟨_, rfl⟩
  have hb0 : Below w.heap.size w w0 := by rw [← hw0]; exact (Below.refl _ _).alloc (Nat.le_refl _) _
  have hrd : Ready w0 w.heap.size 5 1 (.slice (some ⟨w.heap.size, 0, none⟩) 1 1) 1 (bv [108]) := by rw [← hw0]; exact ready_lit w 108 (by omega)
  have HPUT := Lib.hid (put_any (.slice (some ⟨w.heap.size, 0, none⟩) 1 1) 1 [108] n 2 w.heap.size w0 hrd hb0.size (by omega) (by omega) (by omega) (by omega))
  have hm := run_mark (P := Tryz.prog) w 25 5 #[.int .u8 108] 1 Tryz.underlying25 Tryz.underlying5 rfl
  rw [hw0] at hm
  have HN := Lib.hid hn
  have HS := Lib.hid hs
  have HSZ := Lib.hid hsz
  have HP := Lib.hid hp
  have HB0 := Lib.hid hb0
  have HBLK := Lib.hid hb
  have hb' := hb.below hb0 hb.lt
  obtain ⟨c0, _⟩ := facts1 hb'
  rw [hn] at c0
  clear hs ht hn hb hb' hc hlen hsz hp hrd hb0
  go_enter Tryz.func216, Tryz.ntmps216
  go_wp2_with fail
  refine HPUT.out.mono ?_
  rintro e w1 ⟨v1, rfl, hown1, hb1, hkeep⟩
  have ho1 : Ob w1 w.heap.size v1 (108 :: Pl.be 2 n) := by
    have : (108 :: Pl.be 2 n : List UInt8).length = 1 + 2 := by simp [Pl.be_length]
    rw [Ob, this]
    exact hown1
  have HBEL1 := Lib.hid (HB0.out.trans hb1)
  have HO1 := Lib.hid ho1
  have hblk1 := HBLK.out.below HBEL1.out HBLK.out.lt
  obtain ⟨c0, _⟩ := facts1 hblk1
  rw [HN.out] at c0
  clear hown1 hb1 hkeep ho1 hblk1
  go_wp2_with fail
  obtain ⟨l0, hl0⟩ : ∃ l0, (108 :: Pl.be 2 n : List UInt8) = l0 := ⟨_, rfl⟩
  have HL0 : Hid (l0.length = 3) := by rw [Hid, ← hl0]; simp [Pl.be_length]
  rw [hl0] at HO1
  have HL00 := Lib.hid hl0
  obtain ⟨bs, hbs⟩ : ∃ bs, w.heap.size = bs := ⟨_, rfl⟩
  rw [hbs] at HO1
  have HBS := Lib.hid hbs
  clear hl0 hbs
  go_loopw [3, 20] (fun u i wr => ∃ k : Nat, k ≤ n ∧ i = .int .i64 (k : Int) ∧ Hid (Ob wr bs u (l0 ++ (ps.take k).flatMap Pl.encPr)) ∧ Hid (Below w.heap.size w wr)) (fun _ i _ => n - (intOf i).toNat)
  case atStart => exact ⟨0, Nat.zero_le _, rfl, (by simpa [Hid] using HO1.out : Hid _), HBEL1⟩
  case round =>
    obtain ⟨k, hk, rfl, HO, HM⟩ := hrel
    by_cases hkn : k < n
    · have q1 : (k : Int) < (n : Int) := by omega
      obtain ⟨p, hp⟩ : ∃ p, ps[k]? = some p := ⟨_, List.getElem?_eq_getElem (by rw [HN.out]; exact hkn)⟩
      have at_ := flat_at (f := prCells) (s := 2) (fun _ => rfl) ps k p hp
      have hsr := HS.out.below HM.out
      obtain ⟨b2, off, rfl, g0⟩ := hsr.at_ _ _ (at_ 0 (by omega))
      have g1 := hsr.cell _ _ (at_ 1 (by omega))
      rw [← Nat.add_assoc] at g1
      rw [Nat.add_zero] at g0
      have hpb := HP.out p (List.mem_of_getElem? hp)
      have hlen : Hid ((l0 ++ (ps.take k).flatMap Pl.encPr).length ≤ 1000) := by
        have h1 := encPrs_len (ps.take k)
        have h2 := lsz_take_le ps k
        have h3 := HSZ.out
        have h4 := HL0.out
        rw [Hid, List.length_append]
        omega
      have HPP := Lib.hid hp
      obtain ⟨key, val⟩ := p
      obtain ⟨hx1, hx2⟩ := hpb
      dsimp only at g0 g1 hx1 hx2
      obtain ⟨lk, hlk⟩ : ∃ y, l0 ++ (ps.take k).flatMap Pl.encPr = y := ⟨_, rfl⟩
      rw [hlk] at HO hlen
      have HLK := Lib.hid hlk
      obtain ⟨g6, hg6⟩ : ∃ g, wr.heap.size = g := ⟨_, rfl⟩
      obtain ⟨wb, hwb⟩ : ∃ wb, wr.alloc (.cells #[.string (tstr key), .string (tstr val)] 175) = wb := ⟨_, rfl⟩
      have BB : Blk wb g6 175 [.string (tstr key), .string (tstr val)] := by rw [← hwb, ← hg6]; exact Blk.new wr 175 _
      have obb : Ob wb bs u3 lk := by rw [← hwb]; exact HO.out.alloc _
      have hbb : Below wr.heap.size wr wb := by rw [← hwb]; exact (Below.refl _ _).alloc (Nat.le_refl _) _
      have hne : u3.ownBlock ≠ some g6 := fun e => by have := (HO.out.lt g6 e).2; omega
      have hbase : bs ≤ wb.heap.size := by have := HM.out.size; have := hbb.size; have := HBS.out; omega
      obtain ⟨c0', c1', _, _⟩ := facts2 BB
      have hk1 : (tstr key).size = key.length := tstr_size key
      have hv1 : (tstr val).size = val.length := tstr_size val
      obtain ⟨kn, hkn'⟩ : ∃ m, key.length = m := ⟨_, rfl⟩
      obtain ⟨vn, hvn'⟩ : ∃ m, val.length = m := ⟨_, rfl⟩
      rw [hkn'] at hk1 hx1
      rw [hvn'] at hv1 hx2
      have wk := wrap_u8 hx1
      have wv := wrap_u8 hx2
      have KN := Lib.hid hkn'
      have VN := Lib.hid hvn'
      have H1 := Lib.hid (show Ob (wb.alloc (.cells #[.int .u8 (kn : Int)] 5)).drew bs u3 lk from obb.alloc _)
      have H2 := Lib.hid (show Src (wb.alloc (.cells #[.int .u8 (kn : Int)] 5)).drew (some ⟨wb.heap.size, 0, none⟩) (bv [UInt8.ofNat kn]) from src_one wb kn hx1)
      have BBH := Lib.hid BB
      have HBB := Lib.hid hbb
      have HNE := Lib.hid hne
      have HBASE := Lib.hid hbase
      have S0 := Lib.hid (And.intro c0' c1')
      have S1 := Lib.hid (show (wb.alloc (.cells #[.int .u8 (kn : Int)] 5)).drew.cell? ⟨g6, 0, none⟩ = some (.string (tstr key)) ∧ (wb.alloc (.cells #[.int .u8 (kn : Int)] 5)).drew.cell? ⟨g6, 1, none⟩ = some (.string (tstr val)) from ⟨(BB.alloc _).cell 0, (BB.alloc _).cell 1⟩)
      clear at_ hsr hp hlk BB obb hbb hne hbase hkn' hvn'
      go_wp2_with fail
      go_region_held3 (fun W : World => W.cell? ⟨g6, 0, none⟩ = some (.string (tstr key)) ∧ W.cell? ⟨g6, 1, none⟩ = some (.string (tstr val))) (first | exact S0.out | exact S1.out | exact S2.out | exact S3.out) (first
        | (refine step_ob rfl (.tmp 24) (.tmp 29) rfl rfl H1.out (some ⟨wb.heap.size, 0, none⟩) 1 1 [UInt8.ofNat kn] rfl rfl H2.out (by have := hlen.out; omega) (Nat.le_trans HBASE.out (by simp)) ?_
           intro v2 w2 o2 m2
           have B2 := Lib.hid (m2.only.blk (BBH.out.alloc (.cells #[.int .u8 (kn : Int)] 5)).drew HNE.out)
           have S2 := Lib.hid (And.intro (B2.out.cell 0) (B2.out.cell 1))
           have O2 := Lib.hid o2
           have M2 := Lib.hid m2
           clear o2 m2)
        | (refine step_obs rfl (.tmp 30) (.tmp 32) rfl rfl O2.out key rfl (by have := hlen.out; have := KN.out; rw [List.length_append, List.length_singleton]; omega) (Nat.le_trans (Nat.le_trans HBASE.out (by simp)) M2.out.1.size) ?_
           intro v3 w3 o3 m3
           have B3 := Lib.hid (m3.only.blk B2.out (M2.out.2 g6 (by have := BBH.out.lt; simp; omega) HNE.out))
           have S3 := Lib.hid (And.intro (B3.out.cell 0) (B3.out.cell 1))
           have O3 := Lib.hid o3
           have M3 := Lib.hid m3
           clear o3 m3)
        | fail)
      obtain ⟨l3, hl3⟩ : ∃ y, lk ++ [UInt8.ofNat kn] ++ key = y := ⟨_, rfl⟩
      rw [hl3] at O3
      have HL3 : Hid (l3 = lk ++ Pl.short key) := by rw [Hid, ← hl3, List.append_assoc]; unfold Pl.short; rw [KN.out]; rfl
      have HLE3 : Hid (l3.length ≤ 1300) := by rw [HL3.out, Hid, List.length_append]; unfold Pl.short; have := hlen.out; have := KN.out; simp only [List.length_cons]; omega
      have hne3 : Hid (v3.ownBlock ≠ some g6) := M3.out.2 g6 (Nat.lt_of_lt_of_le (by have := BBH.out.lt; simp; omega) M2.out.1.size) (M2.out.2 g6 (by have := BBH.out.lt; simp; omega) HNE.out)
      have hbase3 : Hid (bs ≤ w3.heap.size) := Nat.le_trans (Nat.le_trans (Nat.le_trans HBASE.out (by simp)) M2.out.1.size) M3.out.1.size
      have K1 := Lib.hid (show Ob (w3.alloc (.cells #[.int .u8 (vn : Int)] 5)).drew bs v3 l3 from O3.out.alloc _)
      have K2 := Lib.hid (show Src (w3.alloc (.cells #[.int .u8 (vn : Int)] 5)).drew (some ⟨w3.heap.size, 0, none⟩) (bv [UInt8.ofNat vn]) from src_one w3 vn hx2)
      have T1 := Lib.hid (show (w3.alloc (.cells #[.int .u8 (vn : Int)] 5)).drew.cell? ⟨g6, 0, none⟩ = some (.string (tstr key)) ∧ (w3.alloc (.cells #[.int .u8 (vn : Int)] 5)).drew.cell? ⟨g6, 1, none⟩ = some (.string (tstr val)) from ⟨(B3.out.alloc _).cell 0, (B3.out.alloc _).cell 1⟩)
      have MM3 : Hid (Mv wr w3 u3 v3) := Mv.before HBB.out (((Mv.refl wb u3).alloc (.cells #[.int .u8 (kn : Int)] 5)).drew.trans (M2.out.trans M3.out)) HO.out
      have d0 := S3.out.1
      have d1 := S3.out.2
      clear c0' c1' hl3 H1 H2 S0 S1 S2 B2 O2 M2 M3 wk hx1 hk1
      go_wp2_with fail
      go_region_held3 (fun W : World => W.cell? ⟨g6, 0, none⟩ = some (.string (tstr key)) ∧ W.cell? ⟨g6, 1, none⟩ = some (.string (tstr val))) (first | exact S3.out | exact T1.out | exact S4.out | exact S5.out) (first
        | (refine step_ob rfl (.tmp 34) (.tmp 39) rfl rfl K1.out (some ⟨w3.heap.size, 0, none⟩) 1 1 [UInt8.ofNat vn] rfl rfl K2.out (by have := HLE3.out; omega) (Nat.le_trans hbase3.out (by simp)) ?_
           intro v4 w4 o4 m4
           have B4 := Lib.hid (m4.only.blk (B3.out.alloc (.cells #[.int .u8 (vn : Int)] 5)).drew hne3.out)
           have S4 := Lib.hid (And.intro (B4.out.cell 0) (B4.out.cell 1))
           have O4 := Lib.hid o4
           have M4 := Lib.hid m4
           clear o4 m4)
        | (refine step_obs rfl (.tmp 40) (.tmp 42) rfl rfl O4.out val rfl (by have := HLE3.out; have := VN.out; rw [List.length_append, List.length_singleton]; omega) (Nat.le_trans (Nat.le_trans hbase3.out (by simp)) M4.out.1.size) ?_
           intro v5 w5 o5 m5
           have B5 := Lib.hid (m5.only.blk B4.out (M4.out.2 g6 (by have := B3.out.lt; simp; omega) hne3.out))
           have S5 := Lib.hid (And.intro (B5.out.cell 0) (B5.out.cell 1))
           have O5 := Lib.hid o5
           have M5 := Lib.hid m5
           clear o5 m5)
        | fail)
      have O6 : Hid (Ob w5 bs v5 (l0 ++ (ps.take (k + 1)).flatMap Pl.encPr)) := by
        have e : lk ++ Pl.short key ++ [UInt8.ofNat vn] ++ val = l0 ++ (ps.take (k + 1)).flatMap Pl.encPr := by
          rw [flat_succ _ HPP.out, ← List.append_assoc, HLK.out]
          unfold Pl.encPr Pl.short
          rw [VN.out]
          simp
        rw [Hid, ← e, ← HL3.out]
        exact O5.out
      have MM5 : Hid (Mv wr w5 u3 v5) := MM3.out.trans (((Mv.refl w3 v3).alloc (.cells #[.int .u8 (vn : Int)] 5)).drew.trans (M4.out.trans M5.out))
      have HBE5 : Hid (Below w.heap.size w w5) := HM.out.trans ((MM5.out.belowB HO.out (by have := HM.out.size; have := HBS.out; omega)).mono (by have := HBS.out; omega))
      clear d0 d1 K1 K2 T1 S3 S4 S5 B4 B5 O4 O5 M4 M5 O3 B3 MM3
      go_wp2_with fail
      exact ⟨⟨k + 1, by omega, by go_num, O6, HBE5⟩, by simp [intOf]; omega⟩
    · obtain rfl : k = n := by omega
      have HO2 : Hid (Ob wr bs u3 (Pl.leafText ps)) := by
        have := HO.out
        rw [List.take_of_length_le (by rw [HN.out]; exact Nat.le_refl _)] at this
        rw [Hid]
        unfold Pl.leafText
        rw [HN.out, ← List.cons_append, HL00.out]
        exact this
      obtain ⟨A3, cap3, e3, hc3, hb3, _⟩ := HO2.out.bytes
      have HCV := run_tostr wr A3 (Pl.leafText ps) cap3 hb3
      subst e3
      have hle : Hid ((Pl.leafText ps).length ≤ 1000) := by
        have := encPrs_len ps
        rw [Hid]
        unfold Pl.leafText
        rw [List.length_cons, List.length_append, Pl.be_length]
        have := HSZ.out
        omega
      clear HO HO2 hb3 hc3
      go_wp2_with fail
      go_ret
      exact ⟨rfl, HM.out⟩
end Go.Proofs.YtljmklohgpaopaaGreatDoor
