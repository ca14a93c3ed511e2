/- Plain facts on evidence: how it is taken apart, what it must be; no program in sight. -/
import Derived.Test.YtljmklohgpaopaaDoorPlainChain
namespace Go.Proofs.YtljmklohgpaopaaDoor
namespace Pl

/-- What evidence is made of. -/
structure Ev where
  n : List UInt8
  op : List UInt8
  ops : List UInt8
  time : List UInt8
  text : List UInt8
  p : List UInt8
  q : List UInt8
  last : List UInt8
  rest : List UInt8

/-- So many bytes are taken, or there is too little. -/
def bt (m : Nat) (l : List UInt8) (f : List UInt8 → List UInt8 → Option Ev) : Option Ev := if m ≤ l.length then f (l.take m) (l.drop m) else none
def parse (l : List UInt8) : Option Ev :=
  bt 4 l fun n l => bt 1 l fun op l => bt 1 l fun ops l => bt 8 l fun time l => bt 2 l fun k l => bt (num k) l fun text l =>
  bt 1 l fun k l => bt (4 * num k) l fun p l => bt 1 l fun k l => bt (4 * num k) l fun q l => bt 4 l fun last l => some ⟨n, op, ops, time, text, p, q, last, l⟩

/-- How a reader stands: it is bad, and there is no evidence; or the rest tells. -/
def St (o : Option Ev) (bad : Bool) (k : Option Ev) : Prop := (bad = true ∧ o = none) ∨ (bad = false ∧ o = k)
theorem St.start (o : Option Ev) : St o false o := .inr ⟨rfl, rfl⟩
theorem St.take {o : Option Ev} {bad : Bool} {m : Nat} {l : List UInt8} {f : List UInt8 → List UInt8 → Option Ev} (h : St o bad (bt m l f)) : St o (bad || decide (l.length < m)) (f (l.take m) (l.drop m)) := by
  rcases h with ⟨rfl, h⟩ | ⟨rfl, h⟩
  · exact .inl ⟨rfl, h⟩
  · unfold bt at h
    by_cases hm : m ≤ l.length
    · rw [if_pos hm] at h
      exact .inr ⟨by simp; omega, h⟩
    · rw [if_neg hm] at h
      exact .inl ⟨by simp; omega, h⟩
theorem St.bad {o : Option Ev} {k : Option Ev} (h : St o true k) (k' : Option Ev) : St o true k' := by
  rcases h with h | ⟨h, _⟩
  · exact .inl h
  · cases h
theorem St.short {o : Option Ev} {bad : Bool} {m : Nat} {l : List UInt8} {f : List UInt8 → List UInt8 → Option Ev} (h : St o bad (bt m l f)) (hl : l.length < m) (k' : Option Ev) : St o true k' := by
  have := h.take
  rw [decide_eq_true hl, Bool.or_true] at this
  exact this.bad k'

/-- What is laid down of a transaction. -/
def entry (n : Nat) (time : List UInt8) (ops r : Nat) : List UInt8 := be 4 n ++ time ++ [UInt8.ofNat ops] ++ be 4 r
/-- Is it as it must be? -/
def Fits (e : Ev) : Prop := 1 ≤ num e.n ∧ num e.op < num e.ops ∧ num e.ops ≤ 16 ∧ (groups e.p).length = depth (num e.op) (num e.ops) ∧ (groups e.q).length = depth ((num e.n - 1) % 3) 3 ∧
  ((num e.n - 1) / 3 + 1 = 1 → num e.last = 0)
def blockOf (e : Ev) : Nat := (num e.n - 1) / 3 + 1
def headOf (e : Ev) : List UInt8 :=
  header (blockOf e) (num e.last) (climb (entry (num e.n) e.time (num e.ops) (climb e.text (num e.op) (num e.ops) (groups e.p))) ((num e.n - 1) % 3) 3 (groups e.q))
instance (e : Ev) : Decidable (Fits e) := by unfold Fits; infer_instance
/-- The op that evidence shows, if it leads to the digest. -/
def attested (l : List UInt8) (more : Int) (g : Nat) : Option (List UInt8) :=
  match parse l with
  | none => none
  | some e => if Fits e ∧ extends_ (blockOf e : Nat) (sumN (headOf e)) more g e.rest = true then some e.text else none
theorem attested_none {l : List UInt8} {more : Int} {g : Nat} (h : parse l = none) : attested l more g = none := by unfold attested; rw [h]
theorem attested_unfit {l : List UInt8} {more : Int} {g : Nat} {e : Ev} (h : parse l = some e) (hf : ¬ Fits e) : attested l more g = none := by
  unfold attested; rw [h]; simp [hf]
theorem attested_fit {l : List UInt8} {more : Int} {g : Nat} {e : Ev} (h : parse l = some e) (hf : Fits e) :
    attested l more g = if extends_ (blockOf e : Nat) (sumN (headOf e)) more g e.rest = true then some e.text else none := by
  unfold attested; rw [h]; simp [hf]

theorem snoc_ind {P : List UInt8 → Prop} (h0 : P []) (h1 : ∀ l c, P l → P (l ++ [c])) (l : List UInt8) : P l := by
  have h : ∀ r : List UInt8, P r.reverse := by
    intro r
    induction r with
    | nil => exact h0
    | cons c r ih => rw [List.reverse_cons]; exact h1 _ _ ih
  simpa using h l.reverse
theorem num_snoc (l : List UInt8) (c : UInt8) : num (l ++ [c]) = 256 * num l + c.toNat := by simp [num]
theorem num_lt (l : List UInt8) : num l < 256 ^ l.length := by
  refine snoc_ind (P := fun l => num l < 256 ^ l.length) (by simp [num]) (fun l c ih => ?_) l
  rw [num_snoc, List.length_append, List.length_singleton, Nat.pow_succ]
  have := c.toNat_lt
  omega
theorem num_take_lt (l : List UInt8) (k : Nat) : num (l.take k) < 256 ^ k :=
  Nat.lt_of_lt_of_le (num_lt _) (Nat.pow_le_pow_right (by decide) (by simp; omega))
theorem be_snoc (k v : Nat) : be (k + 1) v = be k (v / 256) ++ [UInt8.ofNat v] := by
  induction k generalizing v with
  | zero => simp [be]
  | succ k ih =>
    rw [be, ih v, be, List.cons_append]
    congr 2
    rw [Nat.div_div_eq_div_mul, Nat.pow_succ, Nat.mul_comm]
theorem be_num (l : List UInt8) : be l.length (num l) = l := by
  refine snoc_ind (P := fun l => be l.length (num l) = l) rfl (fun l c ih => ?_) l
  rw [List.length_append, List.length_singleton, be_snoc, num_snoc]
  have := c.toNat_lt
  rw [show (256 * num l + c.toNat) / 256 = num l by omega, ih]
  congr 2
  apply UInt8.toNat_inj.1
  simp
theorem hashOf_four (l : List UInt8) (h : l.length = 4) : hashOf l = num l := by
  unfold hashOf
  rw [← h, List.take_left]
theorem groups_take4 (l : List UInt8) (k : Nat) (h : 4 * k ≤ l.length) : (groups (l.take (4 * k))).length = k := by
  rw [groups_length, List.length_take]; omega

theorem parse_some {l : List UInt8} {e : Ev} (h : parse l = some e) : e.n.length = 4 ∧ e.op.length = 1 ∧ e.ops.length = 1 ∧ e.time.length = 8 ∧ e.last.length = 4 ∧ e.text.length ≤ l.length ∧ e.rest.length ≤ l.length ∧ e.p.length % 4 = 0 ∧ e.q.length % 4 = 0 := by
  unfold parse bt at h
  simp only [Option.ite_none_right_eq_some] at h
  obtain ⟨h1, h2, h3, h4, h5, h6, h7, h8, h9, h10, h11, h12⟩ := h
  cases h12
  simp only [List.length_take, List.length_drop] at *
  refine ⟨by omega, by omega, by omega, by omega, by omega, by omega, by omega, by omega, by omega⟩
end Pl
end Go.Proofs.YtljmklohgpaopaaDoor
