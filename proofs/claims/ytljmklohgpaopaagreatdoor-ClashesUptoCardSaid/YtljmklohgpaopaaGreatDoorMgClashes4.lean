/- Plain: transactions as bytes: what is laid down is read again, and what is read was laid down. No program in sight. Plain: two pasts under one digest show two texts with one sum. No program in sight. The walks of sums.path and Path. The walks of sums.climb and Climb. The walk of sums.Climb. -/
import Derived.Test.YtljmklohgpaopaaGreatDoorMgClashes3
set_option linter.unusedVariables false
set_option linter.unusedSimpArgs false

namespace Go.Proofs.YtljmklohgpaopaaGreatDoor
namespace Pl

/-- A value, a column, an op, a transaction. -/
structure Vl where
  ty : Nat
  n : Nat
  s : List UInt8
structure Cl where
  name : List UInt8
  ty : Nat
structure Opn where
  kind : Nat
  table : List UInt8
  cols : List Cl
  row : List Vl
structure Txn where
  time : Nat
  ops : List Opn
def short (s : List UInt8) : List UInt8 := UInt8.ofNat s.length :: s
def encV (v : Vl) : List UInt8 := UInt8.ofNat v.ty :: (if v.ty = 1 then be 8 v.n else short v.s)
def encC (c : Cl) : List UInt8 := short c.name ++ [UInt8.ofNat c.ty]
def encRow (row : List Vl) : List UInt8 := UInt8.ofNat row.length :: row.flatMap encV
def encCols (cols : List Cl) : List UInt8 := UInt8.ofNat cols.length :: cols.flatMap encC
def encOp (o : Opn) : List UInt8 :=
  UInt8.ofNat o.kind :: (short o.table ++ (if o.kind = 1 then encCols o.cols else if o.kind = 4 then o.row.flatMap encV else encRow o.row))
def encBody (t : Txn) : List UInt8 := be 8 t.time ++ (UInt8.ofNat t.ops.length :: t.ops.flatMap encOp)
/-- The check of some bytes. -/
def checkOf (l : List UInt8) : Nat := 4294967295 - checkN l
def payload (t : Txn) : List UInt8 := encBody t ++ be 4 (checkOf (encBody t))

def NameOk (s : List UInt8) : Prop := (1 ≤ s.length ∧ s.length ≤ 8) ∧ ∀ c ∈ s, 97 ≤ c.toNat ∧ c.toNat ≤ 122
instance (s : List UInt8) : Decidable (NameOk s) := by unfold NameOk; infer_instance
def VlOk (v : Vl) : Prop := (v.ty = 1 ∧ v.s = [] ∧ v.n < 256 ^ 8) ∨ (v.ty = 2 ∧ v.n = 0 ∧ v.s.length ≤ 16)
def ClOk (c : Cl) : Prop := NameOk c.name ∧ (c.ty = 1 ∨ c.ty = 2)
def ClsOk (cs : List Cl) : Prop := (1 ≤ cs.length ∧ cs.length ≤ 4) ∧ (∀ c ∈ cs, ClOk c) ∧ (cs.map Cl.name).Nodup
instance (c : Cl) : Decidable (ClOk c) := by unfold ClOk; infer_instance
instance (cs : List Cl) : Decidable (ClsOk cs) := by unfold ClsOk; infer_instance
def RowOk (row : List Vl) : Prop := (1 ≤ row.length ∧ row.length ≤ 4) ∧ ∀ v ∈ row, VlOk v
def OpOk (o : Opn) : Prop := NameOk o.table ∧ ((o.kind = 1 ∧ ClsOk o.cols ∧ o.row = []) ∨ ((o.kind = 2 ∨ o.kind = 3) ∧ o.cols = [] ∧ RowOk o.row) ∨ (o.kind = 4 ∧ o.cols = [] ∧ ∃ v, o.row = [v] ∧ VlOk v))
def TxOk (t : Txn) : Prop := t.time < 256 ^ 8 ∧ (1 ≤ t.ops.length ∧ t.ops.length ≤ 16) ∧ ∀ o ∈ t.ops, OpOk o

/-- So many bytes are taken. -/
def tk (n : Nat) (l : List UInt8) : Option (List UInt8 × List UInt8) := if n ≤ l.length then some (l.take n, l.drop n) else none
theorem tk_some {n : Nat} {l a r : List UInt8} (h : tk n l = some (a, r)) : l = a ++ r ∧ a.length = n := by
  unfold tk at h
  split at h
  · next hn =>
    injection h with h
    injection h with h1 h2
    subst h1 h2
    exact ⟨(List.take_append_drop n l).symm, by rw [List.length_take]; omega⟩
  · cases h
theorem tk_append {n : Nat} {a r : List UInt8} (h : a.length = n) : tk n (a ++ r) = some (a, r) := by
  unfold tk
  rw [if_pos (by rw [List.length_append]; omega), ← h, List.take_left, List.drop_left]
theorem num_one (c : UInt8) : num [c] = c.toNat := by simp [num]
theorem num_ofNat {n : Nat} (h : n < 256) : num [UInt8.ofNat n] = n := by
  rw [num_one]
  simp
  omega
theorem one_eq {a : List UInt8} (h : a.length = 1) : a = [UInt8.ofNat (num a)] := by
  match a, h with
  | [c], _ =>
    rw [num_one]
    congr 1
    exact (UInt8.ofNat_toNat).symm
theorem num_one_lt {a : List UInt8} (h : a.length = 1) : num a < 256 := by
  have := num_lt a
  rw [h] at this
  exact this
def pShort (l : List UInt8) : Option (List UInt8 × List UInt8) := (tk 1 l).bind fun x => tk (num x.1) x.2
theorem pShort_some {l s r : List UInt8} (h : pShort l = some (s, r)) : l = short s ++ r ∧ s.length < 256 := by
  unfold pShort at h
  rw [Option.bind_eq_some_iff] at h
  obtain ⟨⟨a, l1⟩, h1, h2⟩ := h
  dsimp only at h2
  obtain ⟨e1, e2⟩ := tk_some h1
  obtain ⟨e3, e4⟩ := tk_some h2
  have hl := num_one_lt e2
  refine ⟨?_, by rw [e4]; exact hl⟩
  have ha1 := one_eq e2
  rw [← e4] at ha1
  rw [e1, e3, ha1]
  rfl
theorem pShort_append {s r : List UInt8} (h : s.length < 256) : pShort (short s ++ r) = some (s, r) := by
  unfold pShort short
  have h1 : tk 1 (UInt8.ofNat s.length :: s ++ r) = some ([UInt8.ofNat s.length], s ++ r) := tk_append (a := [UInt8.ofNat s.length]) rfl
  rw [h1]
  show tk (num [UInt8.ofNat s.length]) (s ++ r) = _
  rw [num_ofNat h]
  exact tk_append rfl
def pVal (l : List UInt8) : Option (Vl × List UInt8) :=
  (tk 1 l).bind fun x => if num x.1 = 1 then (tk 8 x.2).bind fun y => some (⟨1, num y.1, []⟩, y.2)
    else (pShort x.2).bind fun y => if num x.1 = 2 ∧ y.1.length ≤ 16 then some (⟨2, 0, y.1⟩, y.2) else none
theorem pVal_some {l r : List UInt8} {v : Vl} (h : pVal l = some (v, r)) : VlOk v ∧ l = encV v ++ r := by
  unfold pVal at h
  rw [Option.bind_eq_some_iff] at h
  obtain ⟨⟨a, l1⟩, h1, h2⟩ := h
  obtain ⟨e1, e2⟩ := tk_some h1
  dsimp only at h2
  split at h2
  · next ha =>
    rw [Option.bind_eq_some_iff] at h2
    obtain ⟨⟨b, l2⟩, h3, h4⟩ := h2
    obtain ⟨e3, e4⟩ := tk_some h3
    injection h4 with h4
    injection h4 with h5 h6
    subst h5 h6
    have hb := num_lt b
    rw [e4] at hb
    refine ⟨.inl ⟨rfl, rfl, hb⟩, ?_⟩
    have hbe := be_num b
    rw [e4] at hbe
    have ha1 := one_eq e2
    rw [ha] at ha1
    rw [e1, e3, ha1]
    unfold encV
    rw [if_pos rfl]
    dsimp only
    rw [hbe]
    simp
  · next ha =>
    rw [Option.bind_eq_some_iff] at h2
    obtain ⟨⟨b, l2⟩, h3, h4⟩ := h2
    obtain ⟨e3, e4⟩ := pShort_some h3
    dsimp only at h4
    split at h4
    · next hc =>
      injection h4 with h4
      injection h4 with h5 h6
      subst h5 h6
      refine ⟨.inr ⟨rfl, rfl, hc.2⟩, ?_⟩
      have ha1 := one_eq e2
      rw [hc.1] at ha1
      rw [e1, e3, ha1]
      unfold encV
      rw [if_neg (show ¬ (2 : Nat) = 1 by decide)]
      simp
    · cases h4
theorem tk_cons (c : UInt8) (r : List UInt8) : tk 1 (c :: r) = some ([c], r) := tk_append (a := [c]) rfl
theorem pVal_append {v : Vl} {r : List UInt8} (h : VlOk v) : pVal (encV v ++ r) = some (v, r) := by
  obtain ⟨ty, n, s⟩ := v
  rcases h with ⟨h1, h2, h3⟩ | ⟨h1, h2, h3⟩
  · dsimp only at h1 h2 h3
    subst h1 h2
    unfold pVal encV
    rw [if_pos rfl, List.cons_append, tk_cons]
    simp only [Option.bind_some, num_ofNat (show 1 < 256 by decide)]
    rw [if_pos trivial, tk_append (be_length 8 n)]
    simp only [Option.bind_some, num_be 8 n h3]
  · dsimp only at h1 h2 h3
    subst h1 h2
    unfold pVal encV
    rw [if_neg (show ¬ (2 : Nat) = 1 by decide), List.cons_append, tk_cons]
    simp only [Option.bind_some, num_ofNat (show 2 < 256 by decide)]
    rw [if_neg (show ¬ (2 : Nat) = 1 by decide), pShort_append (by omega)]
    simp only [Option.bind_some]
    rw [if_pos ⟨trivial, h3⟩]

/-- So many of a kind. -/
def pMany {α : Type} (p : List UInt8 → Option (α × List UInt8)) : Nat → List UInt8 → Option (List α × List UInt8)
  | 0, l => some ([], l)
  | k + 1, l => (p l).bind fun x => (pMany p k x.2).bind fun y => some (x.1 :: y.1, y.2)
theorem pMany_some {α : Type} {p : List UInt8 → Option (α × List UInt8)} {ok : α → Prop} {enc : α → List UInt8} (hp : ∀ l x r, p l = some (x, r) → ok x ∧ l = enc x ++ r) :
    ∀ (k : Nat) (l : List UInt8) (xs : List α) (r : List UInt8), pMany p k l = some (xs, r) → xs.length = k ∧ (∀ x ∈ xs, ok x) ∧ l = xs.flatMap enc ++ r := by
  intro k
  induction k with
  | zero =>
    intro l xs r h
    injection h with h
    injection h with h1 h2
    subst h1 h2
    exact ⟨rfl, by simp, rfl⟩
  | succ k ih =>
    intro l xs r h
    unfold pMany at h
    rw [Option.bind_eq_some_iff] at h
    obtain ⟨⟨x, l1⟩, h1, h2⟩ := h
    rw [Option.bind_eq_some_iff] at h2
    obtain ⟨⟨ys, l2⟩, h3, h4⟩ := h2
    dsimp only at h3 h4
    injection h4 with h4
    injection h4 with h5 h6
    subst h5 h6
    obtain ⟨o1, e1⟩ := hp _ _ _ h1
    obtain ⟨e2, o2, e3⟩ := ih _ _ _ h3
    refine ⟨by rw [List.length_cons, e2], fun y hy => ?_, ?_⟩
    · rcases List.mem_cons.1 hy with rfl | hy
      · exact o1
      · exact o2 y hy
    · rw [e1, e3, List.flatMap_cons, List.append_assoc]
theorem pMany_append {α : Type} {p : List UInt8 → Option (α × List UInt8)} {ok : α → Prop} {enc : α → List UInt8} (hp : ∀ x r, ok x → p (enc x ++ r) = some (x, r)) (r : List UInt8) :
    ∀ (xs : List α), (∀ x ∈ xs, ok x) → pMany p xs.length (xs.flatMap enc ++ r) = some (xs, r) := by
  intro xs
  induction xs with
  | nil => intro _; rfl
  | cons x ys ih =>
    intro h
    rw [List.length_cons, pMany, List.flatMap_cons, List.append_assoc, hp x _ (h x (by simp))]
    simp only [Option.bind_some]
    rw [ih (fun y hy => h y (by simp [hy]))]
    rfl
def pName (l : List UInt8) : Option (List UInt8 × List UInt8) := (pShort l).bind fun x => if NameOk x.1 then some x else none
theorem pName_some {l s r : List UInt8} (h : pName l = some (s, r)) : NameOk s ∧ l = short s ++ r := by
  unfold pName at h
  rw [Option.bind_eq_some_iff] at h
  obtain ⟨⟨a, l1⟩, h1, h2⟩ := h
  dsimp only at h2
  split at h2
  · next hn =>
    injection h2 with h2
    injection h2 with h3 h4
    subst h3 h4
    exact ⟨hn, (pShort_some h1).1⟩
  · cases h2
theorem pName_append {s r : List UInt8} (h : NameOk s) : pName (short s ++ r) = some (s, r) := by
  unfold pName
  rw [pShort_append (by have := h.1.2; omega)]
  simp only [Option.bind_some]
  rw [if_pos h]
/-- A column: its name, the number of its type. -/
def pCol (l : List UInt8) : Option (Cl × List UInt8) := (pName l).bind fun x => (tk 1 x.2).bind fun y => some (⟨x.1, num y.1⟩, y.2)
def ClLax (c : Cl) : Prop := NameOk c.name ∧ c.ty < 256
theorem pCol_some {l r : List UInt8} {c : Cl} (h : pCol l = some (c, r)) : ClLax c ∧ l = encC c ++ r := by
  unfold pCol at h
  rw [Option.bind_eq_some_iff] at h
  obtain ⟨⟨a, l1⟩, h1, h2⟩ := h
  rw [Option.bind_eq_some_iff] at h2
  obtain ⟨⟨b, l2⟩, h3, h4⟩ := h2
  dsimp only at h3 h4
  injection h4 with h4
  injection h4 with h5 h6
  subst h5 h6
  obtain ⟨o1, e1⟩ := pName_some h1
  obtain ⟨e3, e4⟩ := tk_some h3
  refine ⟨⟨o1, num_one_lt e4⟩, ?_⟩
  unfold encC
  rw [e1, e3]
  dsimp only
  rw [← one_eq e4]
  simp
theorem pCol_append {c : Cl} {r : List UInt8} (h : ClLax c) : pCol (encC c ++ r) = some (c, r) := by
  obtain ⟨nm, ty⟩ := c
  unfold pCol encC
  rw [List.append_assoc, pName_append h.1]
  simp only [Option.bind_some]
  rw [show tk 1 ([UInt8.ofNat ty] ++ r) = some ([UInt8.ofNat ty], r) from tk_append rfl]
  simp only [Option.bind_some, num_ofNat h.2]
def pRow (l : List UInt8) : Option (List Vl × List UInt8) := (tk 1 l).bind fun x => if 1 ≤ num x.1 ∧ num x.1 ≤ 4 then pMany pVal (num x.1) x.2 else none
theorem pRow_some {l r : List UInt8} {row : List Vl} (h : pRow l = some (row, r)) : RowOk row ∧ l = encRow row ++ r := by
  unfold pRow at h
  rw [Option.bind_eq_some_iff] at h
  obtain ⟨⟨a, l1⟩, h1, h2⟩ := h
  obtain ⟨e1, e2⟩ := tk_some h1
  dsimp only at h2
  split at h2
  · next hn =>
    obtain ⟨e3, o3, e4⟩ := pMany_some (ok := VlOk) (enc := encV) (fun _ _ _ h => pVal_some h) _ _ _ _ h2
    refine ⟨⟨by omega, o3⟩, ?_⟩
    unfold encRow
    rw [e1, e4, e3, one_eq e2]
    simp [num_ofNat (num_one_lt e2)]
  · cases h2
theorem pRow_append {row : List Vl} {r : List UInt8} (h : RowOk row) : pRow (encRow row ++ r) = some (row, r) := by
  obtain ⟨⟨h1, h2⟩, h3⟩ := h
  unfold pRow encRow
  rw [List.cons_append, tk_cons]
  simp only [Option.bind_some, num_ofNat (show row.length < 256 by omega)]
  rw [if_pos ⟨h1, h2⟩]
  exact pMany_append (ok := VlOk) (enc := encV) (fun _ _ h => pVal_append h) r row h3
def pCols (l : List UInt8) : Option (List Cl × List UInt8) := (tk 1 l).bind fun x => (pMany pCol (num x.1) x.2).bind fun y => if ClsOk y.1 then some y else none
theorem pCols_some {l r : List UInt8} {cs : List Cl} (h : pCols l = some (cs, r)) : ClsOk cs ∧ l = encCols cs ++ r := by
  unfold pCols at h
  rw [Option.bind_eq_some_iff] at h
  obtain ⟨⟨a, l1⟩, h1, h2⟩ := h
  obtain ⟨e1, e2⟩ := tk_some h1
  rw [Option.bind_eq_some_iff] at h2
  obtain ⟨⟨ys, l2⟩, h3, h4⟩ := h2
  dsimp only at h3 h4
  split at h4
  · next hn =>
    injection h4 with h4
    injection h4 with h5 h6
    subst h5 h6
    obtain ⟨e3, o3, e4⟩ := pMany_some (ok := ClLax) (enc := encC) (fun _ _ _ h => pCol_some h) _ _ _ _ h3
    refine ⟨hn, ?_⟩
    unfold encCols
    rw [e1, e4, e3, one_eq e2]
    simp [num_ofNat (num_one_lt e2)]
  · cases h4
theorem ClOk.lax {c : Cl} (h : ClOk c) : ClLax c := ⟨h.1, by rcases h.2 with h | h <;> omega⟩
theorem pCols_append {cs : List Cl} {r : List UInt8} (h : ClsOk cs) : pCols (encCols cs ++ r) = some (cs, r) := by
  have hh := h
  obtain ⟨⟨h1, h2⟩, h3, h4⟩ := h
  unfold pCols encCols
  rw [List.cons_append, tk_cons]
  simp only [Option.bind_some, num_ofNat (show cs.length < 256 by omega)]
  rw [pMany_append (ok := ClLax) (enc := encC) (fun _ _ h => pCol_append h) r cs (fun c hc => (h3 c hc).lax)]
  simp only [Option.bind_some]
  rw [if_pos hh]
def pOp (l : List UInt8) : Option (Opn × List UInt8) :=
  (tk 1 l).bind fun x => (pName x.2).bind fun y =>
    if num x.1 = 1 then (pCols y.2).bind fun z => some (⟨1, y.1, z.1, []⟩, z.2)
    else if num x.1 = 2 ∨ num x.1 = 3 then (pRow y.2).bind fun z => some (⟨num x.1, y.1, [], z.1⟩, z.2)
    else if num x.1 = 4 then (pVal y.2).bind fun z => some (⟨4, y.1, [], [z.1]⟩, z.2)
    else none
theorem pOp_some {l r : List UInt8} {o : Opn} (h : pOp l = some (o, r)) : OpOk o ∧ l = encOp o ++ r := by
  unfold pOp at h
  rw [Option.bind_eq_some_iff] at h
  obtain ⟨⟨a, l1⟩, h1, h2⟩ := h
  rw [Option.bind_eq_some_iff] at h2
  obtain ⟨⟨nm, l2⟩, h3, h4⟩ := h2
  dsimp only at h3 h4
  obtain ⟨e1, e2⟩ := tk_some h1
  obtain ⟨o3, e3⟩ := pName_some h3
  have ha := one_eq e2
  split at h4
  · next hk =>
    rw [Option.bind_eq_some_iff] at h4
    obtain ⟨⟨cs, l3⟩, h5, h6⟩ := h4
    dsimp only at h6
    injection h6 with h6
    injection h6 with h7 h8
    subst h7 h8
    obtain ⟨o5, e5⟩ := pCols_some h5
    refine ⟨⟨o3, .inl ⟨rfl, o5, rfl⟩⟩, ?_⟩
    rw [hk] at ha
    rw [e1, e3, e5, ha]
    unfold encOp
    rw [if_pos (show (1 : Nat) = 1 from rfl)]
    simp
  · next hk1 =>
    split at h4
    · next hk =>
      rw [Option.bind_eq_some_iff] at h4
      obtain ⟨⟨row, l3⟩, h5, h6⟩ := h4
      dsimp only at h6
      injection h6 with h6
      injection h6 with h7 h8
      subst h7 h8
      obtain ⟨o5, e5⟩ := pRow_some h5
      refine ⟨⟨o3, .inr (.inl ⟨hk, rfl, o5⟩)⟩, ?_⟩
      rw [e1, e3, e5, ha]
      unfold encOp
      dsimp only
      rw [if_neg (by simpa [num_ofNat (num_one_lt e2)] using hk1), if_neg (by rw [num_ofNat (num_one_lt e2)]; omega)]
      simp [num_ofNat (num_one_lt e2)]
    · next hk2 =>
      split at h4
      · next hk =>
        rw [Option.bind_eq_some_iff] at h4
        obtain ⟨⟨v, l3⟩, h5, h6⟩ := h4
        dsimp only at h6
        injection h6 with h6
        injection h6 with h7 h8
        subst h7 h8
        obtain ⟨o5, e5⟩ := pVal_some h5
        refine ⟨⟨o3, .inr (.inr ⟨rfl, rfl, v, rfl, o5⟩)⟩, ?_⟩
        rw [hk] at ha
        rw [e1, e3, e5, ha]
        unfold encOp
        rw [if_neg (show ¬ (4 : Nat) = 1 by decide), if_pos (show (4 : Nat) = 4 from rfl)]
        simp
      · cases h4
theorem pOp_append {o : Opn} {r : List UInt8} (h : OpOk o) : pOp (encOp o ++ r) = some (o, r) := by
  obtain ⟨kind, table, cols, row⟩ := o
  obtain ⟨h0, h⟩ := h
  unfold pOp encOp
  dsimp only at h0 h ⊢
  rw [List.cons_append, tk_cons]
  simp only [Option.bind_some, List.append_assoc]
  rw [pName_append h0]
  simp only [Option.bind_some]
  rcases h with ⟨rfl, h1, rfl⟩ | ⟨hk, rfl, h1⟩ | ⟨rfl, rfl, v, rfl, h1⟩
  · rw [num_ofNat (by decide), if_pos rfl, if_pos rfl, pCols_append h1]
    rfl
  · have hk4 : kind < 256 := by omega
    rw [num_ofNat hk4, if_neg (by omega), if_pos hk, if_neg (by omega), if_neg (by omega), pRow_append h1]
    rfl
  · rw [num_ofNat (by decide), if_neg (by decide), if_neg (by decide), if_pos rfl, if_neg (by decide), if_pos rfl, List.flatMap_cons, List.flatMap_nil, List.append_nil, pVal_append h1]
    rfl
def pBody (l : List UInt8) : Option Txn :=
  (tk 8 l).bind fun x => (tk 1 x.2).bind fun y => if 1 ≤ num y.1 ∧ num y.1 ≤ 16 then (pMany pOp (num y.1) y.2).bind fun z => if z.2 = [] then some ⟨num x.1, z.1⟩ else none else none
theorem pBody_some {l : List UInt8} {t : Txn} (h : pBody l = some t) : TxOk t ∧ l = encBody t := by
  unfold pBody at h
  rw [Option.bind_eq_some_iff] at h
  obtain ⟨⟨a, l1⟩, h1, h2⟩ := h
  rw [Option.bind_eq_some_iff] at h2
  obtain ⟨⟨b, l2⟩, h3, h4⟩ := h2
  dsimp only at h3 h4
  obtain ⟨e1, e2⟩ := tk_some h1
  obtain ⟨e3, e4⟩ := tk_some h3
  split at h4
  · next hn =>
    rw [Option.bind_eq_some_iff] at h4
    obtain ⟨⟨os, l3⟩, h5, h6⟩ := h4
    dsimp only at h6
    split at h6
    · next hr =>
      injection h6 with h6
      subst h6 hr
      obtain ⟨e5, o5, e6⟩ := pMany_some (ok := OpOk) (enc := encOp) (fun _ _ _ h => pOp_some h) _ _ _ _ h5
      have ha := num_lt a
      rw [e2] at ha
      refine ⟨⟨ha, by dsimp only; omega, o5⟩, ?_⟩
      unfold encBody
      dsimp only
      have hb := be_num a
      rw [e2] at hb
      have hbb := one_eq e4
      rw [← e5] at hbb
      rw [hb, e1, e3, e6, hbb]
      simp
    · cases h6
  · cases h4
theorem pBody_enc {t : Txn} (h : TxOk t) : pBody (encBody t) = some t := by
  obtain ⟨time, ops⟩ := t
  obtain ⟨h1, ⟨h2, h3⟩, h4⟩ := h
  dsimp only at h1 h2 h3 h4
  unfold pBody encBody
  dsimp only
  rw [tk_append (be_length 8 time)]
  simp only [Option.bind_some]
  rw [tk_cons]
  simp only [Option.bind_some, num_ofNat (show ops.length < 256 by omega)]
  rw [if_pos ⟨h2, h3⟩]
  have := pMany_append (p := pOp) (ok := OpOk) (enc := encOp) (fun _ _ h => pOp_append h) [] ops h4
  rw [List.append_nil] at this
  rw [this]
  simp only [Option.bind_some]
  rw [if_pos trivial, num_be 8 time h1]
/-- A payload is read. -/
def readTx (s : List UInt8) : Option Txn :=
  if 4 ≤ s.length ∧ s.drop (s.length - 4) = be 4 (checkOf (s.take (s.length - 4))) then pBody (s.take (s.length - 4)) else none
theorem readTx_iff (s : List UInt8) (t : Txn) : readTx s = some t ↔ TxOk t ∧ payload t = s := by
  unfold readTx
  constructor
  · intro h
    split at h
    · next hc =>
      obtain ⟨h1, h2⟩ := pBody_some h
      refine ⟨h1, ?_⟩
      unfold payload
      rw [← h2, ← hc.2, List.take_append_drop]
    · cases h
  · rintro ⟨h1, rfl⟩
    have hl : (payload t).length - 4 = (encBody t).length := by unfold payload; rw [List.length_append, be_length]; omega
    have ht : (payload t).take ((payload t).length - 4) = encBody t := by rw [hl]; unfold payload; exact List.take_left
    have hd : (payload t).drop ((payload t).length - 4) = be 4 (checkOf (encBody t)) := by rw [hl]; unfold payload; exact List.drop_left
    rw [if_pos ⟨by unfold payload; rw [List.length_append, be_length]; omega, by rw [hd, ht]⟩, ht]
    exact pBody_enc h1
end Pl
end Go.Proofs.YtljmklohgpaopaaGreatDoor

namespace Go.Proofs.YtljmklohgpaopaaGreatDoor
namespace Pl

/-- The texts of a tree, in the order in which it is gone through. -/
def ttexts (ls : List (List UInt8)) : List (List UInt8) :=
  match h : ls with
  | [] => []
  | [l] => [0 :: l]
  | a :: b :: r => (1 :: (be 4 (root (ls.take (half ls.length))) ++ be 4 (root (ls.drop (half ls.length))))) :: (ttexts (ls.take (half ls.length)) ++ ttexts (ls.drop (half ls.length)))
termination_by ls.length
decreasing_by
  · subst h
    have := half_lt (n := (a :: b :: r).length) (by simp)
    rw [List.length_take]
    omega
  · subst h
    have h1 := half_pos (a :: b :: r).length
    have hl : (a :: b :: r).length = r.length + 2 := by simp
    rw [List.length_drop]
    omega
theorem ttexts_nil : ttexts [] = [] := by rw [ttexts]
theorem ttexts_one (l : List UInt8) : ttexts [l] = [0 :: l] := by rw [ttexts]
theorem ttexts_many (ls : List (List UInt8)) (h : 2 ≤ ls.length) : ttexts ls = (1 :: (be 4 (root (ls.take (half ls.length))) ++ be 4 (root (ls.drop (half ls.length))))) :: (ttexts (ls.take (half ls.length)) ++ ttexts (ls.drop (half ls.length))) := by
  match ls, h with
  | a :: b :: r, _ => rw [ttexts]
theorem ttexts_length : ∀ (n : Nat) (ls : List (List UInt8)), ls.length = n → 1 ≤ n → (ttexts ls).length = 2 * n - 1 := by
  intro n
  induction n using Nat.strongRecOn with
  | _ n ih =>
    intro ls hl hn
    by_cases h2 : 2 ≤ n
    · have h1 := half_lt (n := ls.length) (by omega)
      have h0 := half_pos ls.length
      rw [ttexts_many ls (by omega), List.length_cons, List.length_append]
      rw [ih (half ls.length) (by omega) _ (by rw [List.length_take]; omega) (by omega), ih (ls.length - half ls.length) (by omega) _ (by rw [List.length_drop]) (by omega)]
      omega
    · match ls, hl with
      | [l], h => rw [ttexts_one]; simp at h ⊢; omega
      | [], h => simp at h; omega
      | _ :: _ :: _, h => simp at h; omega
/-- The first place where two lists part. -/
def parts : List (List UInt8) → List (List UInt8) → Option (List UInt8 × List UInt8)
  | a :: l, b :: m => if a = b then parts l m else some (a, b)
  | _, _ => none
theorem parts_some : ∀ (l m : List (List UInt8)) (a b : List UInt8), parts l m = some (a, b) → ∃ k, l[k]? = some a ∧ m[k]? = some b ∧ a ≠ b ∧ l.take k = m.take k
  | [], _, _, _, h => by simp [parts] at h
  | _ :: _, [], _, _, h => by simp [parts] at h
  | x :: l, y :: m, a, b, h => by
    rw [parts] at h
    by_cases e : x = y
    · rw [if_pos e] at h
      obtain ⟨k, h1, h2, h3, h4⟩ := parts_some l m a b h
      exact ⟨k + 1, h1, h2, h3, by rw [List.take_succ_cons, List.take_succ_cons, h4, e]⟩
    · rw [if_neg e] at h
      injection h with h
      injection h with h1 h2
      subst h1 h2
      exact ⟨0, rfl, rfl, e, rfl⟩
theorem parts_none : ∀ (l m : List (List UInt8)), l.length = m.length → parts l m = none → l = m
  | [], [], _, _ => rfl
  | [], _ :: _, h, _ => by simp at h
  | _ :: _, [], h, _ => by simp at h
  | x :: l, y :: m, hl, h => by
    rw [parts] at h
    by_cases e : x = y
    · rw [if_pos e] at h
      rw [e, parts_none l m (by simpa using hl) h]
    · rw [if_neg e] at h; cases h
theorem be4_inj {a b : Nat} (ha : a < 4294967296) (hb : b < 4294967296) (h : be 4 a = be 4 b) : a = b := by
  rw [← num_be 4 a ha, ← num_be 4 b hb, h]
/-- Two trees of one shape and one root: where their texts part first, the two have one sum. -/
theorem texts_sum : ∀ (n : Nat) (ls ms : List (List UInt8)), ls.length = n → ms.length = n → root ls = root ms → ∀ (k : Nat) (a b : List UInt8), (ttexts ls)[k]? = some a → (ttexts ms)[k]? = some b → (ttexts ls).take k = (ttexts ms).take k → sumN a = sumN b := by
  intro n
  induction n using Nat.strongRecOn with
  | _ n ih =>
    intro ls ms hl hm hr k a b ha hb ht
    by_cases h2 : 2 ≤ n
    · have h1 := half_lt (n := n) (by omega)
      have h0 := half_pos n
      have e1 := ttexts_many ls (by omega)
      have e2 := ttexts_many ms (by omega)
      have r1 := root_many ls (by omega)
      have r2 := root_many ms (by omega)
      rw [hl] at e1 r1
      rw [hm] at e2 r2
      rw [e1] at ha ht
      rw [e2] at hb ht
      cases k with
      | zero =>
        simp at ha hb
        rw [← ha, ← hb, ← r1, ← r2, hr]
      | succ k =>
        rw [List.take_succ_cons, List.take_succ_cons] at ht
        injection ht with ht1 ht2
        injection ht1 with _ ht1
        have hsp := List.append_inj ht1 (by rw [be_length, be_length])
        have l1 := root_lt (ls.take (half n))
        have l2 := root_lt (ms.take (half n))
        have l3 := root_lt (ls.drop (half n))
        have l4 := root_lt (ms.drop (half n))
        have s1 := be4_inj (by omega) (by omega) hsp.1
        have s2 := be4_inj (by omega) (by omega) hsp.2
        have t1 : (ls.take (half n)).length = half n := by rw [List.length_take]; omega
        have t2 : (ms.take (half n)).length = half n := by rw [List.length_take]; omega
        have t3 : (ls.drop (half n)).length = n - half n := by rw [List.length_drop]; omega
        have t4 : (ms.drop (half n)).length = n - half n := by rw [List.length_drop]; omega
        have q1 := ttexts_length (half n) _ t1 (by omega)
        have q2 := ttexts_length (half n) _ t2 (by omega)
        simp only [List.getElem?_cons_succ] at ha hb
        by_cases hk : k < 2 * half n - 1
        · rw [List.getElem?_append_left (by omega)] at ha hb
          rw [List.take_append_of_le_length (by omega), List.take_append_of_le_length (by omega)] at ht2
          exact ih (half n) (by omega) _ _ t1 t2 s1 k a b ha hb ht2
        · rw [List.getElem?_append_right (by omega)] at ha hb
          rw [q1] at ha
          rw [q2] at hb
          rw [List.take_append, List.take_append, q1, q2] at ht2
          have hlen : ((ttexts (ls.take (half n))).take k).length = ((ttexts (ms.take (half n))).take k).length := by rw [List.length_take, List.length_take, q1, q2]
          exact ih (n - half n) (by omega) _ _ t3 t4 s2 _ a b ha hb (List.append_inj ht2 hlen).2
    · match ls, ms, hl, hm with
      | [], _, h, _ =>
        rw [ttexts_nil] at ha
        simp at ha
      | [x], [y], _, _ =>
        rw [ttexts_one] at ha hb
        rw [root_one, root_one] at hr
        cases k with
        | zero =>
          simp at ha hb
          rw [← ha, ← hb, hr]
        | succ k => simp at ha
      | [_], [], h1, h3 => simp at h1 h3; omega
      | [_], _ :: _ :: _, h1, h3 => simp at h1 h3; omega
      | _ :: _ :: _, _, h, _ => simp at h; omega
/-- What apart finds. -/
theorem apart_sum (ls ms : List (List UInt8)) (hn : ls.length = ms.length) (hr : root ls = root ms) (a b : List UInt8) (h : parts (ttexts ls) (ttexts ms) = some (a, b)) : a ≠ b ∧ sumN a = sumN b ∧ a ∈ ttexts ls ∧ b ∈ ttexts ms := by
  obtain ⟨k, h1, h2, h3, h4⟩ := parts_some _ _ _ _ h
  exact ⟨h3, texts_sum ls.length ls ms rfl hn.symm hr k a b h1 h2 h4, List.mem_of_getElem? h1, List.mem_of_getElem? h2⟩
/-- The leaves are told by the texts. -/
theorem ttexts_inj : ∀ (n : Nat) (ls ms : List (List UInt8)), ls.length = n → ms.length = n → ttexts ls = ttexts ms → ls = ms := by
  intro n
  induction n using Nat.strongRecOn with
  | _ n ih =>
    intro ls ms hl hm h
    by_cases h2 : 2 ≤ n
    · have h1 := half_lt (n := n) (by omega)
      have h0 := half_pos n
      rw [ttexts_many ls (by omega), ttexts_many ms (by omega), hl, hm] at h
      injection h with _ h
      have t1 : (ls.take (half n)).length = half n := by rw [List.length_take]; omega
      have t2 : (ms.take (half n)).length = half n := by rw [List.length_take]; omega
      have t3 : (ls.drop (half n)).length = n - half n := by rw [List.length_drop]; omega
      have t4 : (ms.drop (half n)).length = n - half n := by rw [List.length_drop]; omega
      have hsp := List.append_inj h (by rw [ttexts_length (half n) _ t1 (by omega), ttexts_length (half n) _ t2 (by omega)])
      rw [← List.take_append_drop (half n) ls, ← List.take_append_drop (half n) ms, ih (half n) (by omega) _ _ t1 t2 hsp.1, ih (n - half n) (by omega) _ _ t3 t4 hsp.2]
    · match ls, ms, hl, hm with
      | [], [], _, _ => rfl
      | [x], [y], _, _ =>
        rw [ttexts_one, ttexts_one] at h
        simp at h
        rw [h]
      | [], _ :: _, h1, h3 => simp at h1 h3; omega
      | _ :: _, [], h1, h3 => simp at h1 h3; omega
      | [_], _ :: _ :: _, h1, h3 => simp at h1 h3; omega
      | _ :: _ :: _, _, h, _ => simp at h; omega

/-- A transaction's texts; its entry. -/
def txTexts (t : Txn) : List (List UInt8) := t.ops.map encOp
def entryOf (n : Nat) (t : Txn) : List UInt8 := entry n (be 8 t.time) t.ops.length (root (txTexts t))
def txAt (P : List Txn) (k : Nat) : Txn := P.getD k ⟨0, []⟩
/-- The entries of a block (from 0), the hash ahead of it, its header. -/
def ents (P : List Txn) (i : Nat) : List (List UInt8) := [entryOf (3 * i + 1) (txAt P (3 * i)), entryOf (3 * i + 2) (txAt P (3 * i + 1)), entryOf (3 * i + 3) (txAt P (3 * i + 2))]
def hashAt (P : List Txn) : Nat → Nat
  | 0 => 0
  | i + 1 => sumN (header (i + 1) (hashAt P i) (root (ents P i)))
def hdr (P : List Txn) (i : Nat) : List UInt8 := header (i + 1) (hashAt P i) (root (ents P i))
theorem hashAt_succ (P : List Txn) (i : Nat) : hashAt P (i + 1) = sumN (hdr P i) := rfl
theorem hashAt_lt (P : List Txn) : ∀ i, hashAt P i < 4294967291
  | 0 => by show 0 < 4294967291; decide
  | i + 1 => sumN_lt _
def txParts (P Q : List Txn) (k : Nat) : Option (List UInt8 × List UInt8) := parts (ttexts (txTexts (txAt P k))) (ttexts (txTexts (txAt Q k)))
/-- What Clash looks at in a block. -/
def clashAt (P Q : List Txn) (i : Nat) : Option (List UInt8 × List UInt8) :=
  if hdr P i = hdr Q i then
    match parts (ttexts (ents P i)) (ttexts (ents Q i)) with
    | some x => some x
    | none => match txParts P Q (3 * i) with
      | some x => some x
      | none => match txParts P Q (3 * i + 1) with
        | some x => some x
        | none => txParts P Q (3 * i + 2)
  else some (hdr P i, hdr Q i)
def clashDown (P Q : List Txn) : Nat → Option (List UInt8 × List UInt8)
  | 0 => none
  | i + 1 => match clashAt P Q i with
    | some x => some x
    | none => clashDown P Q i
/-- Is it a header of a past, or one of the texts of its trees? -/
def Summed (P : List Txn) (n : Nat) (x : List UInt8) : Prop := (∃ i, i < n ∧ (x = hdr P i ∨ x ∈ ttexts (ents P i))) ∨ ∃ k, k < 3 * n ∧ x ∈ ttexts (txTexts (txAt P k))
def TxsOk (P : List Txn) (n : Nat) : Prop := ∀ k, k < 3 * n → TxOk (txAt P k)

theorem header_inj {b h r h' r' : Nat} (h1 : h < 4294967296) (h2 : h' < 4294967296) (r1 : r < 4294967296) (r2 : r' < 4294967296) (e : header b h r = header b h' r') : h = h' ∧ r = r' := by
  unfold header at e
  injection e with _ e
  have e1 := List.append_inj e (by simp [be_length])
  have e2 := List.append_inj e1.1 (by simp [be_length])
  exact ⟨be4_inj h1 h2 e2.2, be4_inj r1 r2 e1.2⟩
theorem entryOf_inj {n : Nat} {t t' : Txn} (h : TxOk t) (h' : TxOk t') (e : entryOf n t = entryOf n t') : t.time = t'.time ∧ t.ops.length = t'.ops.length ∧ root (txTexts t) = root (txTexts t') := by
  unfold entryOf entry at e
  have e1 := List.append_inj e (by simp [be_length])
  have e2 := List.append_inj e1.1 (by simp [be_length])
  have e3 := List.append_inj e2.1 (by simp [be_length])
  have r1 := root_lt (txTexts t)
  have r2 := root_lt (txTexts t')
  refine ⟨?_, ?_, be4_inj (by omega) (by omega) e1.2⟩
  · rw [← num_be 8 t.time h.1, ← num_be 8 t'.time h'.1, e3.2]
  · have h1 := h.2.1.2
    have h2 := h'.2.1.2
    have e4 : num [UInt8.ofNat t.ops.length] = num [UInt8.ofNat t'.ops.length] := by rw [e2.2]
    rwa [num_ofNat (by omega), num_ofNat (by omega)] at e4
theorem encOp_inj {o o' : Opn} (h : OpOk o) (h' : OpOk o') (e : encOp o = encOp o') : o = o' := by
  have h1 := pOp_append (r := []) h
  have h2 := pOp_append (r := []) h'
  rw [e, h2] at h1
  injection h1 with h1
  injection h1 with h1 _
  exact h1.symm
theorem ops_inj : ∀ (l m : List Opn), (∀ o ∈ l, OpOk o) → (∀ o ∈ m, OpOk o) → l.map encOp = m.map encOp → l = m
  | [], [], _, _, _ => rfl
  | [], _ :: _, _, _, h => by simp at h
  | _ :: _, [], _, _, h => by simp at h
  | a :: l, b :: m, h1, h2, h => by
    simp only [List.map_cons, List.cons.injEq] at h
    rw [encOp_inj (h1 a (by simp)) (h2 b (by simp)) h.1, ops_inj l m (fun o ho => h1 o (by simp [ho])) (fun o ho => h2 o (by simp [ho])) h.2]
theorem txParts_some {P Q : List Txn} {k : Nat} {x y : List UInt8} (hl : (txAt P k).ops.length = (txAt Q k).ops.length) (hr : root (txTexts (txAt P k)) = root (txTexts (txAt Q k))) (h : txParts P Q k = some (x, y)) :
    x ≠ y ∧ sumN x = sumN y ∧ x ∈ ttexts (txTexts (txAt P k)) ∧ y ∈ ttexts (txTexts (txAt Q k)) :=
  apart_sum _ _ (by unfold txTexts; rw [List.length_map, List.length_map, hl]) hr x y h
theorem txParts_none {P Q : List Txn} {k : Nat} (hp : TxOk (txAt P k)) (hq : TxOk (txAt Q k)) (ht : (txAt P k).time = (txAt Q k).time) (hl : (txAt P k).ops.length = (txAt Q k).ops.length) (h : txParts P Q k = none) : txAt P k = txAt Q k := by
  have h1 : (txTexts (txAt P k)).length = (txTexts (txAt Q k)).length := by unfold txTexts; rw [List.length_map, List.length_map, hl]
  have hp1 := hp.2.1.1
  have hlen : 1 ≤ (txTexts (txAt P k)).length := by unfold txTexts; rw [List.length_map]; exact hp1
  have h2 := parts_none _ _ (by rw [ttexts_length _ _ rfl hlen, ttexts_length _ _ rfl (by omega), h1]) h
  have h3 := ttexts_inj _ _ _ rfl h1.symm h2
  have h4 := ops_inj _ _ hp.2.2 hq.2.2 h3
  cases hP : txAt P k
  cases hQ : txAt Q k
  rw [hP, hQ] at h4 ht
  simp only at h4 ht
  rw [h4, ht]
theorem ents_length (P : List Txn) (i : Nat) : (ents P i).length = 3 := rfl
/-- Clash, in one block: two texts with one sum; or nothing, and the blocks are the same. -/
theorem clashAt_law {P Q : List Txn} {i : Nat} (hP : TxsOk P (i + 1)) (hQ : TxsOk Q (i + 1)) (hh : hashAt P (i + 1) = hashAt Q (i + 1)) :
    (∃ x y, clashAt P Q i = some (x, y) ∧ x ≠ y ∧ sumN x = sumN y ∧ Summed P (i + 1) x ∧ Summed Q (i + 1) y) ∨
    (clashAt P Q i = none ∧ hashAt P i = hashAt Q i ∧ ∀ k, 3 * i ≤ k → k < 3 * (i + 1) → txAt P k = txAt Q k) := by
  unfold clashAt
  by_cases he : hdr P i = hdr Q i
  · rw [if_pos he]
    have a1 := hashAt_lt P i
    have a2 := hashAt_lt Q i
    have a3 := root_lt (ents P i)
    have a4 := root_lt (ents Q i)
    obtain ⟨g1, g2⟩ := header_inj (by omega) (by omega) (by omega) (by omega) he
    cases hp : parts (ttexts (ents P i)) (ttexts (ents Q i)) with
    | some x =>
      obtain ⟨x, y⟩ := x
      obtain ⟨b1, b2, b3, b4⟩ := apart_sum (ents P i) (ents Q i) rfl g2 x y hp
      exact .inl ⟨x, y, rfl, b1, b2, .inl ⟨i, by omega, .inr b3⟩, .inl ⟨i, by omega, .inr b4⟩⟩
    | none =>
      have hq := ttexts_inj 3 (ents P i) (ents Q i) rfl rfl (parts_none _ _ (by rw [ttexts_length 3 (ents P i) rfl (by decide), ttexts_length 3 (ents Q i) rfl (by decide)]) hp)
      unfold ents at hq
      simp only [List.cons.injEq, and_true] at hq
      obtain ⟨q0, q1, q2⟩ := hq
      have p0 := hP (3 * i) (by omega)
      have p1 := hP (3 * i + 1) (by omega)
      have p2 := hP (3 * i + 2) (by omega)
      have o0 := hQ (3 * i) (by omega)
      have o1 := hQ (3 * i + 1) (by omega)
      have o2 := hQ (3 * i + 2) (by omega)
      obtain ⟨u0, v0, w0⟩ := entryOf_inj p0 o0 q0
      obtain ⟨u1, v1, w1⟩ := entryOf_inj p1 o1 q1
      obtain ⟨u2, v2, w2⟩ := entryOf_inj p2 o2 q2
      cases c0 : txParts P Q (3 * i) with
      | some x =>
        obtain ⟨x, y⟩ := x
        obtain ⟨b1, b2, b3, b4⟩ := txParts_some v0 w0 c0
        exact .inl ⟨x, y, rfl, b1, b2, .inr ⟨_, by omega, b3⟩, .inr ⟨_, by omega, b4⟩⟩
      | none =>
        cases c1 : txParts P Q (3 * i + 1) with
        | some x =>
          obtain ⟨x, y⟩ := x
          obtain ⟨b1, b2, b3, b4⟩ := txParts_some v1 w1 c1
          exact .inl ⟨x, y, rfl, b1, b2, .inr ⟨_, by omega, b3⟩, .inr ⟨_, by omega, b4⟩⟩
        | none =>
          cases c2 : txParts P Q (3 * i + 2) with
          | some x =>
            obtain ⟨x, y⟩ := x
            obtain ⟨b1, b2, b3, b4⟩ := txParts_some v2 w2 c2
            exact .inl ⟨x, y, rfl, b1, b2, .inr ⟨_, by omega, b3⟩, .inr ⟨_, by omega, b4⟩⟩
          | none =>
            refine .inr ⟨rfl, g1, fun k h1 h2 => ?_⟩
            obtain rfl | rfl | rfl : k = 3 * i ∨ k = 3 * i + 1 ∨ k = 3 * i + 2 := by omega
            · exact txParts_none p0 o0 u0 v0 c0
            · exact txParts_none p1 o1 u1 v1 c1
            · exact txParts_none p2 o2 u2 v2 c2
  · rw [if_neg he]
    exact .inl ⟨_, _, rfl, he, hh, .inl ⟨i, by omega, .inl rfl⟩, .inl ⟨i, by omega, .inl rfl⟩⟩
theorem Summed.mono {P : List Txn} {n n' : Nat} {x : List UInt8} (h : Summed P n x) (hn : n ≤ n') : Summed P n' x := by
  rcases h with ⟨i, h1, h2⟩ | ⟨k, h1, h2⟩
  · exact .inl ⟨i, by omega, h2⟩
  · exact .inr ⟨k, by omega, h2⟩
theorem clash_law {P Q : List Txn} : ∀ (n : Nat), TxsOk P n → TxsOk Q n → hashAt P n = hashAt Q n →
    (∃ x y, clashDown P Q n = some (x, y) ∧ x ≠ y ∧ sumN x = sumN y ∧ Summed P n x ∧ Summed Q n y) ∨
    (clashDown P Q n = none ∧ ∀ k, k < 3 * n → txAt P k = txAt Q k)
  | 0, _, _, _ => .inr ⟨rfl, fun k h => by omega⟩
  | i + 1, hP, hQ, hh => by
    rcases clashAt_law hP hQ hh with ⟨x, y, h1, h2, h3, h4, h5⟩ | ⟨h1, h2, h3⟩
    · exact .inl ⟨x, y, by rw [clashDown, h1], h2, h3, h4, h5⟩
    · rcases clash_law i (fun k hk => hP k (by omega)) (fun k hk => hQ k (by omega)) h2 with ⟨x, y, g1, g2, g3, g4, g5⟩ | ⟨g1, g2⟩
      · exact .inl ⟨x, y, by rw [clashDown, h1]; exact g1, g2, g3, g4.mono (by omega), g5.mono (by omega)⟩
      · refine .inr ⟨by rw [clashDown, h1]; exact g1, fun k hk => ?_⟩
        by_cases hki : 3 * i ≤ k
        · exact h3 k hki (by omega)
        · exact g2 k (by omega)
end Pl
end Go.Proofs.YtljmklohgpaopaaGreatDoor

namespace Go.Proofs.YtljmklohgpaopaaGreatDoor
open Go.RowKit

/-- Hashes as the cells of a row. -/
def hcs (ps : List Nat) : List Value := ps.flatMap hc
theorem hcs_len (ps : List Nat) : (hcs ps).length = ps.length * 4 := by
  induction ps with
  | nil => rfl
  | cons a r ih => simp only [hcs, List.flatMap_cons, List.length_append] at ih ⊢; rw [ih]; simp [hc]; omega
theorem hcs_append (a b : List Nat) : hcs (a ++ b) = hcs a ++ hcs b := by simp [hcs]
theorem hcs_one (n : Nat) : hcs [n] = hc n := by simp [hcs]
theorem own_below {w w' : World} {base : Nat} {e : TypeId} {size n : Nat} {v : Value} {xs : List Value} (h : w.ownsRow base e size v n xs) (hb : Below w.heap.size w w') : w'.ownsRow base e size v n xs := by
  refine h.kept (only_of_below hb none) ?_
  cases v.ownBlock
  · exact .inl rfl
  · exact .inr (by simp)

theorem size_alloc_le {n : Nat} {w : World} (h : n ≤ w.heap.size) (o : Obj) : n ≤ (w.alloc o).heap.size := Nat.le_trans h (by simp)

end Go.Proofs.YtljmklohgpaopaaGreatDoor

namespace Go.Proofs.YtljmklohgpaopaaGreatDoor
open Go.RowKit

theorem hcs_snoc_at (qs : List Nat) (x j : Nat) (hj : j < 4) : (hcs (qs ++ [x]))[qs.length * 4 + j]? = (hc x)[j]? := by
  rw [hcs_append, hcs_one, List.getElem?_append_right (by rw [hcs_len]; omega), hcs_len]
  congr 1
  omega

/-- The four cells of the hash that stands behind the others. -/
theorem Src.last4 {w : World} {b off n : Nat} {qs : List Nat} {x : Nat} (h : Src w (some ⟨b, off, none⟩) (hcs (qs ++ [x]))) (hn : qs.length = n) :
    w.cell? ⟨b, off + n * 4, none⟩ = some (.int .u8 ((x : Int) / 16777216)) ∧ w.cell? ⟨b, off + n * 4 + 1, none⟩ = some (.int .u8 ((x : Int) / 65536 % 256)) ∧
    w.cell? ⟨b, off + n * 4 + 2, none⟩ = some (.int .u8 ((x : Int) / 256 % 256)) ∧ w.cell? ⟨b, off + n * 4 + 3, none⟩ = some (.int .u8 ((x : Int) % 256)) := by
  subst hn
  have h' := fun j hj => h.cell (qs.length * 4 + j) _ (by rw [hcs_snoc_at qs x j hj, List.getElem?_eq_getElem (by simp [hc]; omega)])
  exact ⟨h' 0 (by omega), h' 1 (by omega), h' 2 (by omega), h' 3 (by omega)⟩

end Go.Proofs.YtljmklohgpaopaaGreatDoor

namespace Go.Proofs.YtljmklohgpaopaaGreatDoor
open Go.RowKit

end Go.Proofs.YtljmklohgpaopaaGreatDoor
