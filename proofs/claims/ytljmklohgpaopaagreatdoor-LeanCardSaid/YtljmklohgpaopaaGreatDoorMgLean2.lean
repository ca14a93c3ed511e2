/- Plain: a disk whose power may fail; a log on it: what the functions compute. No program in sight. Plain: transactions as bytes: what is laid down is read again, and what is read was laid down. No program in sight. Plain: pages of a tree of pairs: what leaves makes. No program in sight. Plain: a tree of pages, of one height; what Put makes of it. No program in sight. -/
import Derived.Test.YtljmklohgpaopaaGreatDoorMgLean1
set_option linter.unusedVariables false
set_option linter.unusedSimpArgs false

namespace Go.Proofs.YtljmklohgpaopaaGreatDoor
namespace Pl

structure Sec where
  now : List UInt8
  safe : List UInt8
  broken : Bool
  was : Bool
  fresh : Bool
structure Dk where
  secs : List Sec
  life : Int
def zeros (n : Nat) : List UInt8 := List.replicate n 0
def Sec.empty : Sec := ⟨zeros 256, zeros 256, false, false, false⟩
/-- So many sectors does a disk have that is asked for with this number. -/
def most (n : Int) : Nat := if n < 0 then 0 else if 4096 < n then 4096 else n.toNat
def Dk.new (n : Int) : Dk := ⟨List.replicate (most n) Sec.empty, -1⟩
/-- May a change be done? -/
def Dk.alive (d : Dk) : Bool := decide (d.life < 0 ∨ 1 < d.life)
/-- A changing call is counted. -/
def Dk.tick (d : Dk) : Dk := { d with life := if 0 < d.life then d.life - 1 else d.life }
def Sec.put (s : Sec) (t : List UInt8) : Sec := ⟨t ++ zeros (256 - t.length), s.safe, false, s.was, true⟩
def Sec.flush (s : Sec) : Sec := if s.fresh then ⟨s.now, s.now, s.broken, false, false⟩ else s
inductive Ch where
  | wr (i : Nat) (t : List UInt8)
  | sy
/-- What a change makes of the sectors. -/
def Ch.on (c : Ch) (l : List Sec) : List Sec :=
  match c with
  | .wr i t => l.modify i (·.put t)
  | .sy => l.map Sec.flush
/-- One changing call. -/
def Dk.change (d : Dk) (c : Ch) : Dk := if d.alive then { d.tick with secs := c.on d.secs } else d.tick
/-- Changing calls one behind the other, till one fails: does none? -/
def Dk.run (d : Dk) : List Ch → Dk × Bool
  | [] => (d, true)
  | c :: r => if d.alive then (d.change c).run r else (d.change c, false)
theorem Dk.run_nil (d : Dk) : d.run [] = (d, true) := rfl
theorem Dk.run_cons (d : Dk) (c : Ch) (r : List Ch) : d.run (c :: r) = if d.alive then (d.change c).run r else (d.change c, false) := by rw [Dk.run]
theorem Dk.run_append (d : Dk) (a b : List Ch) : d.run (a ++ b) = if (d.run a).2 then (d.run a).1.run b else ((d.run a).1, false) := by
  induction a generalizing d with
  | nil => rfl
  | cons c r ih =>
    rw [List.cons_append, Dk.run_cons, Dk.run_cons]
    by_cases h : d.alive = true
    · rw [if_pos h, if_pos h, ih]
    · rw [if_neg h, if_neg h]; rfl
/-- A look at a sector: nothing, if it is broken. -/
def Dk.look (d : Dk) (i : Nat) : Option (List UInt8) :=
  match d.secs[i]? with
  | some s => if s.broken then none else some s.now
  | none => none
def pieceText (e i : Nat) (more : Bool) (c : List UInt8) : List UInt8 := 76 :: (be 8 e ++ be 4 i ++ [if more then 1 else 0] ++ be 2 c.length ++ c)
/-- The pieces of a payload, from a place on: each with whether more follows. -/
def pieces (p : List UInt8) : List (Bool × List UInt8) :=
  if h : p.length ≤ 240 then [(false, p)] else (true, p.take 240) :: pieces (p.drop 240)
termination_by p.length
decreasing_by rw [List.length_drop]; omega
def chunks (n : Nat) : Nat := (n + 239) / 240

structure Lg where
  first : Nat
  data : Nat
  epoch : Nat
  next : Nat
  all : List (List UInt8)
  bad : Bool
def Lg.at_ (l : Lg) (i : Nat) : Nat := l.first + 2 + i
def Lg.laid (l : Lg) : Nat → List (Bool × List UInt8) → List Ch
  | _, [] => []
  | i, (m, c) :: r => .wr (l.at_ i) (pieceText l.epoch i m c) :: l.laid (i + 1) r
/-- What a log's calls answer: the error's kind. -/
def Lg.append (l : Lg) (d : Dk) (p : List UInt8) : Lg × Dk × Nat :=
  if p.length < 1 ∨ 2000 < p.length then (l, d, 4)
  else if l.data < l.next + chunks p.length then (l, d, 5)
  else if l.bad then (l, d, 3)
  else match d.run (l.laid l.next (pieces p)) with
    | (d', true) => ({ l with next := l.next + chunks p.length, all := l.all ++ [p] }, d', 0)
    | (d', false) => ({ l with bad := true }, d', 3)
/-- The epoch that a slot tells. -/
def slotOf (s : Option (List UInt8)) : Nat :=
  match s with
  | some (72 :: r) => num (r.take 8)
  | _ => 0
/-- Is a sector a piece of this epoch? -/
def ownOf (e : Nat) (s : List UInt8) : Bool := s.headD 0 == 76 && num ((s.drop 1).take 8) == e
def sizeOf (s : List UInt8) : Nat := num ((s.drop 14).take 2)
/-- What is read: the payloads, and how many sectors they take. -/
def scan (e : Nat) : List (Option (List UInt8)) → Nat → List UInt8 → List (List UInt8) → Nat → List (List UInt8) × Nat
  | [], _, _, all, next => (all, next)
  | none :: _, _, _, all, next => (all, next)
  | some s :: r, i, b, all, next =>
    if ownOf e s = true ∧ num ((s.drop 9).take 4) = i ∧ sizeOf s ≤ 240 ∧ b.length + sizeOf s ≤ 2000 then
      if (s.drop 13).headD 0 = 0 then scan e r (i + 1) [] (all ++ [b ++ (s.drop 16).take (sizeOf s)]) (i + 1)
      else scan e r (i + 1) (b ++ (s.drop 16).take (sizeOf s)) all next
    else (all, next)
/-- What stands behind the end and is of this epoch. -/
def stale (d : Dk) (e first next data : Nat) : List Ch :=
  ((List.range data).filter (fun i => next ≤ i ∧ (d.look (first + 2 + i)).any (ownOf e))).map (fun i => .wr (first + 2 + i) [])
def cleaned (l : List Ch) : List Ch := if l.isEmpty then [] else l ++ [.sy]
def openLog (d : Dk) (first n : Nat) : Dk × (Nat ⊕ Lg) :=
  if d.life = 0 then (d, .inl 3)
  else
    let e := max (slotOf (d.look first)) (slotOf (d.look (first + 1)))
    if e = 0 then (d, .inl 2)
    else
      let r := scan e ((List.range (n - 2)).map (fun i => d.look (first + 2 + i))) 0 [] [] 0
      match d.run (cleaned (stale d e first r.2 (n - 2))) with
      | (d', true) => (d', .inr ⟨first, n - 2, e, r.2, r.1, false⟩)
      | (d', false) => (d', .inl 3)

/-- What a log's sectors read, from a place on. -/
def texts (e : Nat) : Nat → List (Bool × List UInt8) → List (Option (List UInt8))
  | _, [] => []
  | i, (m, c) :: r => some (pieceText e i m c ++ zeros (256 - (pieceText e i m c).length)) :: texts e (i + 1) r
theorem texts_length (e : Nat) (l : List (Bool × List UInt8)) : ∀ i, (texts e i l).length = l.length := by
  induction l with
  | nil => intro i; rfl
  | cons a r ih => intro i; obtain ⟨m, c⟩ := a; simp [texts, ih]
theorem texts_append (e : Nat) (a b : List (Bool × List UInt8)) : ∀ i, texts e i (a ++ b) = texts e i a ++ texts e (i + a.length) b := by
  induction a with
  | nil => intro i; simp [texts]
  | cons x r ih => intro i; obtain ⟨m, c⟩ := x; simp [texts, ih]; congr 1; omega
theorem num_be (k v : Nat) (h : v < 256 ^ k) : num (be k v) = v := by
  induction k generalizing v with
  | zero => simp at h; subst h; rfl
  | succ k ih =>
    rw [be_snoc, num_snoc, ih (v / 256) (by rw [Nat.pow_succ] at h; exact Nat.div_lt_of_lt_mul (by rw [Nat.mul_comm]; exact h))]
    simp
    omega
theorem piece_parts (e i : Nat) (m : Bool) (c z : List UInt8) (he : e < 256 ^ 8) (hi : i < 256 ^ 4) (hc : c.length ≤ 240) :
    ownOf e (pieceText e i m c ++ z) = true ∧ num (((pieceText e i m c ++ z).drop 9).take 4) = i ∧ sizeOf (pieceText e i m c ++ z) = c.length ∧
    ((pieceText e i m c ++ z).drop 13).headD 0 = (if m then 1 else 0) ∧ ((pieceText e i m c ++ z).drop 16).take c.length = c := by
  have h8 : (be 8 e).length = 8 := be_length 8 e
  have h4 : (be 4 i).length = 4 := be_length 4 i
  have h2 : (be 2 c.length).length = 2 := be_length 2 _
  have e1 : (pieceText e i m c ++ z).drop 1 = be 8 e ++ (be 4 i ++ ([if m then 1 else 0] ++ (be 2 c.length ++ (c ++ z)))) := by simp [pieceText]
  have e9 : (pieceText e i m c ++ z).drop 9 = be 4 i ++ ([if m then 1 else 0] ++ (be 2 c.length ++ (c ++ z))) := by
    rw [show (9 : Nat) = 1 + 8 from rfl, ← List.drop_drop, e1, List.drop_left' h8]
  have e13 : (pieceText e i m c ++ z).drop 13 = [if m then 1 else 0] ++ (be 2 c.length ++ (c ++ z)) := by
    rw [show (13 : Nat) = 9 + 4 from rfl, ← List.drop_drop, e9, List.drop_left' h4]
  have e14 : (pieceText e i m c ++ z).drop 14 = be 2 c.length ++ (c ++ z) := by
    rw [show (14 : Nat) = 13 + 1 from rfl, ← List.drop_drop, e13]; rfl
  have e16 : (pieceText e i m c ++ z).drop 16 = c ++ z := by
    rw [show (16 : Nat) = 14 + 2 from rfl, ← List.drop_drop, e14, List.drop_left' h2]
  refine ⟨?_, ?_, ?_, ?_, ?_⟩
  · unfold ownOf
    rw [e1, List.take_left' h8, num_be 8 e he]
    simp [pieceText]
  · rw [e9, List.take_left' h4, num_be 4 i hi]
  · unfold sizeOf
    rw [e14, List.take_left' h2, num_be 2 _ (by omega)]
  · rw [e13]; rfl
  · rw [e16, List.take_left' rfl]
theorem scan_pieces (e : Nat) (he : e < 256 ^ 8) (rest : List (Option (List UInt8))) (n : Nat) : ∀ (p b : List UInt8) (i : Nat) (all : List (List UInt8)) (nx : Nat), p.length ≤ n → i + (pieces p).length < 256 ^ 4 → b.length + p.length ≤ 2000 →
    scan e (texts e i (pieces p) ++ rest) i b all nx = scan e rest (i + (pieces p).length) [] (all ++ [b ++ p]) (i + (pieces p).length) := by
  induction n with
  | zero =>
    intro p b i all nx hp hi hb
    obtain rfl : p = [] := List.eq_nil_of_length_eq_zero (by omega)
    rw [pieces, dif_pos (by simp)] at hi ⊢
    obtain ⟨h1, h2, h3, h4, h5⟩ := piece_parts e i false [] (zeros (256 - (pieceText e i false []).length)) he (by simp at hi; omega) (by simp)
    simp only [texts, List.cons_append, List.nil_append, scan]
    rw [h3, if_pos ⟨h1, h2, by simp, by simpa using hb⟩, if_pos (by rw [h4]; rfl), h5]
    rfl
  | succ n ih =>
    intro p b i all nx hp hi hb
    by_cases hs : p.length ≤ 240
    · rw [pieces, dif_pos hs] at hi ⊢
      obtain ⟨h1, h2, h3, h4, h5⟩ := piece_parts e i false p (zeros (256 - (pieceText e i false p).length)) he (by simp at hi; omega) hs
      simp only [texts, List.cons_append, List.nil_append, scan]
      rw [h3, if_pos ⟨h1, h2, hs, hb⟩, if_pos (by rw [h4]; rfl), h5]
      rfl
    · rw [pieces, dif_neg hs] at hi ⊢
      have hl : (p.take 240).length = 240 := by simp; omega
      obtain ⟨h1, h2, h3, h4, h5⟩ := piece_parts e i true (p.take 240) (zeros (256 - (pieceText e i true (p.take 240)).length)) he (by simp at hi; omega) (by omega)
      simp only [List.length_cons] at hi
      simp only [texts, List.cons_append, scan]
      rw [h3, if_pos ⟨h1, h2, by omega, by omega⟩, if_neg (by rw [h4]; decide), h5, ih (p.drop 240) _ (i + 1) all nx (by simp; omega) (by omega) (by simp; omega)]
      rw [List.append_assoc, List.take_append_drop, List.length_cons, show i + 1 + (pieces (p.drop 240)).length = i + ((pieces (p.drop 240)).length + 1) by omega]
/-- The pieces of all that a log has. -/
def flat (all : List (List UInt8)) : List (Bool × List UInt8) := all.flatMap pieces
theorem scan_all (e : Nat) (he : e < 256 ^ 8) (rest : List (Option (List UInt8))) : ∀ (all : List (List UInt8)) (i : Nat) (pre : List (List UInt8)), i + (flat all).length < 256 ^ 4 → (∀ p ∈ all, p.length ≤ 2000) →
    scan e (texts e i (flat all) ++ rest) i [] pre i = scan e rest (i + (flat all).length) [] (pre ++ all) (i + (flat all).length) := by
  intro all
  induction all with
  | nil => intro i pre _ _; simp [flat, texts]
  | cons p r ih =>
    intro i pre hi hp
    have hf : flat (p :: r) = pieces p ++ flat r := rfl
    rw [hf, List.length_append] at hi ⊢
    rw [texts_append, List.append_assoc, scan_pieces e he _ p.length p [] i pre i (Nat.le_refl _) (by omega) (by simpa using hp p (by simp)), List.nil_append, ih (i + (pieces p).length) (pre ++ [p]) (by omega) (fun q hq => hp q (by simp [hq]))]
    rw [List.append_assoc, Nat.add_assoc]
    rfl
theorem scan_stop (e : Nat) (l : List (Option (List UInt8))) (i : Nat) (b : List UInt8) (all : List (List UInt8)) (nx : Nat) (h : ∀ s, l[0]? = some (some s) → ownOf e s = false) : scan e l i b all nx = (all, nx) := by
  match l with
  | [] => rfl
  | none :: _ => rfl
  | some s :: r =>
    have := h s rfl
    simp [scan, this]
end Pl
end Go.Proofs.YtljmklohgpaopaaGreatDoor

namespace Go.Proofs.YtljmklohgpaopaaGreatDoor
namespace Pl

/-- A value, a column, an op, a transaction. -/
structure Vl where
  ty : Nat
  n : Nat
  s : List UInt8
structure Cl where
  name : List UInt8
  ty : Nat
structure Opn where
  kind : Nat
  table : List UInt8
  cols : List Cl
  row : List Vl
structure Txn where
  time : Nat
  ops : List Opn
def short (s : List UInt8) : List UInt8 := UInt8.ofNat s.length :: s
def encV (v : Vl) : List UInt8 := UInt8.ofNat v.ty :: (if v.ty = 1 then be 8 v.n else short v.s)
def encC (c : Cl) : List UInt8 := short c.name ++ [UInt8.ofNat c.ty]
def encRow (row : List Vl) : List UInt8 := UInt8.ofNat row.length :: row.flatMap encV
def encCols (cols : List Cl) : List UInt8 := UInt8.ofNat cols.length :: cols.flatMap encC
def encOp (o : Opn) : List UInt8 :=
  UInt8.ofNat o.kind :: (short o.table ++ (if o.kind = 1 then encCols o.cols else if o.kind = 4 then o.row.flatMap encV else encRow o.row))
def NameOk (s : List UInt8) : Prop := (1 ≤ s.length ∧ s.length ≤ 8) ∧ ∀ c ∈ s, 97 ≤ c.toNat ∧ c.toNat ≤ 122
instance (s : List UInt8) : Decidable (NameOk s) := by unfold NameOk; infer_instance
def VlOk (v : Vl) : Prop := (v.ty = 1 ∧ v.s = [] ∧ v.n < 256 ^ 8) ∨ (v.ty = 2 ∧ v.n = 0 ∧ v.s.length ≤ 16)
def ClOk (c : Cl) : Prop := NameOk c.name ∧ (c.ty = 1 ∨ c.ty = 2)
def ClsOk (cs : List Cl) : Prop := (1 ≤ cs.length ∧ cs.length ≤ 4) ∧ (∀ c ∈ cs, ClOk c) ∧ (cs.map Cl.name).Nodup
instance (c : Cl) : Decidable (ClOk c) := by unfold ClOk; infer_instance
instance (cs : List Cl) : Decidable (ClsOk cs) := by unfold ClsOk; infer_instance
def RowOk (row : List Vl) : Prop := (1 ≤ row.length ∧ row.length ≤ 4) ∧ ∀ v ∈ row, VlOk v
def OpOk (o : Opn) : Prop := NameOk o.table ∧ ((o.kind = 1 ∧ ClsOk o.cols ∧ o.row = []) ∨ ((o.kind = 2 ∨ o.kind = 3) ∧ o.cols = [] ∧ RowOk o.row) ∨ (o.kind = 4 ∧ o.cols = [] ∧ ∃ v, o.row = [v] ∧ VlOk v))
/-- So many bytes are taken. -/
def tk (n : Nat) (l : List UInt8) : Option (List UInt8 × List UInt8) := if n ≤ l.length then some (l.take n, l.drop n) else none
theorem num_one (c : UInt8) : num [c] = c.toNat := by simp [num]
theorem num_ofNat {n : Nat} (h : n < 256) : num [UInt8.ofNat n] = n := by
  rw [num_one]
  simp
  omega
/-- So many of a kind. -/
def pMany {α : Type} (p : List UInt8 → Option (α × List UInt8)) : Nat → List UInt8 → Option (List α × List UInt8)
  | 0, l => some ([], l)
  | k + 1, l => (p l).bind fun x => (pMany p k x.2).bind fun y => some (x.1 :: y.1, y.2)
end Pl
end Go.Proofs.YtljmklohgpaopaaGreatDoor

namespace Go.Proofs.YtljmklohgpaopaaGreatDoor
namespace Pl

/-- A pair: its key, its value. -/
structure Pr where
  key : List UInt8
  val : List UInt8
def psz (p : Pr) : Nat := 2 + p.key.length + p.val.length
def lsz (ps : List Pr) : Nat := 3 + (ps.map psz).sum
/-- Pages of pairs, and the keys between them: 'all' is the size of all of them in one page. -/
def lv (all : Nat) : List Pr → List Pr → Nat → List (List Pr) × List (List UInt8)
  | [], now, _ => ([now], [])
  | p :: r, now, size =>
    if (256 < size + psz p ∨ (256 < all ∧ all / 2 ≤ size)) ∧ now ≠ [] then (now :: (lv all r [p] (3 + psz p)).1, p.key :: (lv all r [p] (3 + psz p)).2)
    else lv all r (now ++ [p]) (size + psz p)
def leavesOf (ps : List Pr) : List (List Pr) × List (List UInt8) := lv (lsz ps) ps [] 3
theorem lv_flat (all : Nat) : ∀ (ps now : List Pr) (size : Nat), (lv all ps now size).1.flatten = now ++ ps
  | [], now, _ => by simp [lv]
  | p :: r, now, size => by
    unfold lv
    split
    · rw [List.flatten_cons, lv_flat all r]; simp
    · rw [lv_flat all r]; simp
theorem leavesOf_flat (ps : List Pr) : (leavesOf ps).1.flatten = ps := by unfold leavesOf; rw [lv_flat]; rfl
theorem lsz_snoc (ps : List Pr) (p : Pr) : lsz (ps ++ [p]) = lsz ps + psz p := by simp [lsz]; omega
theorem lv_small (all : Nat) : ∀ (ps now : List Pr) (size : Nat), size = lsz now → lsz now ≤ 256 → (∀ p ∈ ps, psz p ≤ 253) → ∀ pg ∈ (lv all ps now size).1, lsz pg ≤ 256
  | [], now, _, _, h2, _, pg, h => by simp [lv] at h; subst h; exact h2
  | p :: r, now, size, h1, h2, h3, pg, h => by
    have hp := h3 p (by simp)
    unfold lv at h
    split at h
    · rcases List.mem_cons.1 h with rfl | h
      · exact h2
      · exact lv_small all r [p] _ (by simp [lsz]) (by simp [lsz]; omega) (fun q hq => h3 q (by simp [hq])) pg h
    · next hc =>
      refine lv_small all r (now ++ [p]) _ (by rw [lsz_snoc, h1]) ?_ (fun q hq => h3 q (by simp [hq])) pg h
      rw [lsz_snoc]
      by_cases hn : now = []
      · subst hn; simp [lsz]; omega
      · have : ¬ (256 < size + psz p) := fun h => hc ⟨.inl h, hn⟩
        omega
theorem leavesOf_small {ps : List Pr} (h : ∀ p ∈ ps, psz p ≤ 253) : ∀ pg ∈ (leavesOf ps).1, lsz pg ≤ 256 := lv_small _ ps [] 3 rfl (by simp [lsz]) h
theorem lv_full (all : Nat) : ∀ (ps now : List Pr) (size : Nat), (now ≠ [] ∨ ps ≠ []) → ∀ pg ∈ (lv all ps now size).1, pg ≠ []
  | [], now, _, h, pg, hp => by
    simp [lv] at hp
    subst hp
    rcases h with h | h
    · exact h
    · exact absurd rfl h
  | p :: r, now, size, h, pg, hp => by
    unfold lv at hp
    split at hp
    · next hc =>
      rcases List.mem_cons.1 hp with rfl | hp
      · exact hc.2
      · exact lv_full all r [p] _ (.inl (by simp)) pg hp
    · exact lv_full all r (now ++ [p]) _ (.inl (by simp)) pg hp
theorem leavesOf_full {ps : List Pr} (h : ps ≠ []) : ∀ pg ∈ (leavesOf ps).1, pg ≠ [] := lv_full _ ps [] 3 (.inr h)
theorem lv_keys (all : Nat) : ∀ (ps now : List Pr) (size : Nat), (lv all ps now size).1.length = (lv all ps now size).2.length + 1
  | [], now, _ => by simp [lv]
  | p :: r, now, size => by
    unfold lv
    split
    · simp [lv_keys all r]
    · exact lv_keys all r _ _
/-- Each key between two pages is the first of the page behind it. -/
theorem lv_first (all : Nat) : ∀ (ps now : List Pr) (size k : Nat) (key : List UInt8), (lv all ps now size).2[k]? = some key → ∃ p r, (lv all ps now size).1[k + 1]? = some (p :: r) ∧ p.key = key
  | [], now, _, k, key, h => by simp [lv] at h
  | p :: r, now, size, k, key, h => by
    unfold lv at h ⊢
    split at h
    · next hc =>
      rw [if_pos hc]
      cases k with
      | zero =>
        have hk : p.key = key := by simpa using h
        obtain ⟨q, e⟩ : ∃ q, (lv all r [p] (3 + psz p)).1[0]? = some (p :: q) := lv_head all r [p] _ p [] rfl
        exact ⟨p, q, by simpa using e, hk⟩
      | succ k =>
        obtain ⟨q, t, e1, e2⟩ := lv_first all r [p] _ k key (by simpa using h)
        exact ⟨q, t, by simpa using e1, e2⟩
    · next hc =>
      rw [if_neg hc]
      exact lv_first all r (now ++ [p]) _ k key h
where
  lv_head (all : Nat) : ∀ (ps now : List Pr) (size : Nat) (p : Pr) (t : List Pr), now = p :: t → ∃ q, (lv all ps now size).1[0]? = some (p :: q)
    | [], now, _, p, t, h => by subst h; exact ⟨t, by simp [lv]⟩
    | x :: r, now, size, p, t, h => by
      unfold lv
      split
      · subst h; exact ⟨t, by simp⟩
      · exact lv_head all r (now ++ [x]) _ p (t ++ [x]) (by rw [h]; rfl)
/-- The size of an inner page with these keys. -/
def isz (ks : List (List UInt8)) : Nat := 6 + (ks.map fun k => 5 + k.length).sum
/-- Where an inner page that is too great is parted: the loop of inners. -/
def cut (all : Nat) : List (List UInt8) → Nat → Nat → Nat → Nat
  | [], _, _, at_ => at_
  | k :: r, i, half, at_ => if all / 2 ≤ half + (5 + k.length) then (if 0 < i then i else at_) else cut all r (i + 1) (half + (5 + k.length)) (if 0 < i then i else at_)
def cutAt (ks : List (List UInt8)) : Nat := cut (isz ks) ks.dropLast 0 0 1
/-- Inner pages of kids and the keys between them: one, or two. -/
def innersOf {α : Type} (ks : List (List UInt8)) (cs : List α) : List (List (List UInt8) × List α) × List (List UInt8) :=
  if isz ks ≤ 256 then ([(ks, cs)], []) else ([(ks.take (cutAt ks), cs.take (cutAt ks + 1)), (ks.drop (cutAt ks + 1), cs.drop (cutAt ks + 1))], (ks.drop (cutAt ks)).take 1)
/-- What the first keys weigh. -/
def csum (ks : List (List UInt8)) (c : Nat) : Nat := ((ks.take c).map fun k => 5 + k.length).sum
theorem csum_zero (ks : List (List UInt8)) : csum ks 0 = 0 := by simp [csum]
theorem csum_cons (k : List UInt8) (r : List (List UInt8)) (c : Nat) : csum (k :: r) (c + 1) = 5 + k.length + csum r c := by simp [csum]
theorem isz_csum (ks : List (List UInt8)) : isz ks = 6 + csum ks ks.length := by simp [isz, csum]
theorem csum_split (ks : List (List UInt8)) (c : Nat) : csum ks ks.length = csum ks c + ((ks.drop c).map fun k => 5 + k.length).sum := by
  unfold csum
  rw [List.take_length]
  conv => lhs; rw [← List.take_append_drop c ks]
  rw [List.map_append, List.sum_append]
theorem cut_spec (all : Nat) : ∀ (ks : List (List UInt8)) (i half at_ : Nat), half < all / 2 → (∃ j, j < ks.length ∧ all / 2 ≤ half + csum ks (j + 1)) → (0 < i ∨ half + csum ks 1 < all / 2) →
    ∃ j, j < ks.length ∧ cut all ks i half at_ = i + j ∧ half + csum ks j < all / 2 ∧ all / 2 ≤ half + csum ks (j + 1)
  | [], _, _, _, _, ⟨j, hj, _⟩, _ => by simp at hj
  | k :: r, i, half, at_, h1, ⟨j, hj, h2⟩, h3 => by
    have e1 : csum (k :: r) 1 = 5 + k.length := by rw [csum_cons, csum_zero, Nat.add_zero]
    unfold cut
    split
    · next h =>
      have hi : 0 < i := by rcases h3 with h3 | h3; exact h3; omega
      exact ⟨0, by simp, by rw [if_pos hi]; rfl, by rw [csum_zero]; exact h1, by rw [e1]; exact h⟩
    · next h =>
      obtain ⟨j', g1, g2, g3, g4⟩ := cut_spec all r (i + 1) (half + (5 + k.length)) (if 0 < i then i else at_) (by omega) (by
        cases j with
        | zero => rw [e1] at h2; omega
        | succ j => exact ⟨j, by simpa using hj, by rw [csum_cons] at h2; omega⟩) (.inl (by omega))
      exact ⟨j' + 1, by simpa using g1, by rw [g2]; omega, by rw [csum_cons]; omega, by rw [csum_cons]; omega⟩
/-- Parted pages are none too great, and each has a key. -/
theorem cutAt_spec {ks : List (List UInt8)} (hk : ∀ k ∈ ks, k.length ≤ 40) (h : 256 < isz ks) (h2 : isz ks ≤ 420) :
    1 ≤ cutAt ks ∧ cutAt ks + 1 < ks.length ∧ isz (ks.take (cutAt ks)) ≤ 256 ∧ isz (ks.drop (cutAt ks + 1)) ≤ 256 := by
  have hc : ∀ c, csum ks (c + 1) ≤ csum ks c + 45 := by
    intro c
    unfold csum
    rw [List.take_add_one, List.map_append, List.sum_append]
    cases hx : ks[c]? with
    | none => simp
    | some k => have := hk k (List.mem_of_getElem? hx); simp; omega
  have hall := isz_csum ks
  have b1 : csum ks 1 ≤ 45 := by have := hc 0; rw [csum_zero] at this; simpa using this
  have b2 : csum ks 2 ≤ 90 := by have h9 := hc 1; have : csum ks 2 ≤ csum ks 1 + 45 := h9; omega
  have hlen : 3 ≤ ks.length := by
    rcases Nat.lt_or_ge ks.length 3 with h9 | h9
    · have c0 := csum_zero ks
      have c1 := hc 0
      have c2 := hc 1
      have : csum ks ks.length ≤ 90 := by
        match hl : ks.length, h9 with
        | 0, _ => omega
        | 1, _ => omega
        | 2, _ => omega
      omega
    · exact h9
  have hdl : ks.dropLast.length = ks.length - 1 := List.length_dropLast
  have hcd : ∀ c, c ≤ ks.length - 1 → csum ks.dropLast c = csum ks c := by
    intro c hc
    unfold csum
    rw [List.dropLast_eq_take, List.take_take, Nat.min_eq_left hc]
  have hlast : csum ks ks.length ≤ csum ks (ks.length - 1) + 45 := by
    have := hc (ks.length - 1)
    rw [show ks.length - 1 + 1 = ks.length by omega] at this
    exact this
  have hl2 : csum ks (ks.length - 1) ≤ csum ks (ks.length - 2) + 45 := by
    have := hc (ks.length - 2)
    rw [show ks.length - 2 + 1 = ks.length - 1 by omega] at this
    exact this
  obtain ⟨j, g1, g2, g3, g4⟩ := cut_spec (isz ks) ks.dropLast 0 0 1 (by omega) ⟨ks.length - 2, by omega, by rw [hcd _ (by omega), show ks.length - 2 + 1 = ks.length - 1 by omega]; omega⟩ (.inr (by rw [hcd _ (by omega)]; omega))
  have hj : cutAt ks = j := by unfold cutAt; rw [g2, Nat.zero_add]
  rw [hcd _ (by omega)] at g3 g4
  rw [hj]
  have hj1 : 1 ≤ j := by
    cases j with
    | zero =>
      have b1' : csum ks (0 + 1) ≤ 45 := b1
      omega
    | succ j => omega
  refine ⟨hj1, by omega, ?_, ?_⟩
  · have : isz (ks.take j) = 6 + csum ks j := rfl
    omega
  · have h7 := csum_split ks (j + 1)
    have : isz (ks.drop (j + 1)) = 6 + ((ks.drop (j + 1)).map fun k => 5 + k.length).sum := rfl
    omega
end Pl
end Go.Proofs.YtljmklohgpaopaaGreatDoor

namespace Go.Proofs.YtljmklohgpaopaaGreatDoor
namespace Pl

/-- A tree of a height. -/
def Tr : Nat → Type
  | 0 => List Pr
  | h + 1 => List (List UInt8) × List (Tr h)
/-- Pages side by side, and the keys between them. -/
abbrev Row (h : Nat) := List (Tr h) × List (List UInt8)
def prs : (h : Nat) → Tr h → List Pr
  | 0, (ps : List Pr) => ps
  | h + 1, (n : List (List UInt8) × List (Tr h)) => n.2.flatMap (prs h)
def rowPrs (h : Nat) (r : Row h) : List Pr := r.1.flatMap (prs h)
def pgsz : (h : Nat) → Tr h → Nat
  | 0, (ps : List Pr) => lsz ps
  | h + 1, (n : List (List UInt8) × List (Tr h)) => isz n.1
def innerRow {h : Nat} (ks : List (List UInt8)) (cs : List (Tr h)) : Row (h + 1) := innersOf ks cs
def leafRow (ps : List Pr) : Row 0 := leavesOf ps
/-- Two pages that stood side by side. -/
def together : (h : Nat) → Tr h → List UInt8 → Tr h → Row h
  | 0, (a : List Pr), _, (b : List Pr) => leafRow (a ++ b)
  | _ + 1, a, key, b => innerRow (a.1 ++ key :: b.1) (a.2 ++ b.2)
theorem innersOf_flat {α : Type} (ks : List (List UInt8)) (cs : List α) : (innersOf ks cs).1.flatMap (·.2) = cs := by
  unfold innersOf
  split
  · simp
  · simp
theorem leafRow_prs (ps : List Pr) : rowPrs 0 (leafRow ps) = ps := by
  show (leavesOf ps).1.flatMap (fun x => x) = ps
  have := leavesOf_flat ps
  rw [← List.flatMap_id] at this
  exact this
theorem innerRow_prs {h : Nat} (ks : List (List UInt8)) (cs : List (Tr h)) : rowPrs (h + 1) (innerRow ks cs) = cs.flatMap (prs h) := by
  show (innersOf ks cs).1.flatMap (fun n => n.2.flatMap (prs h)) = _
  rw [← List.flatMap_assoc, innersOf_flat]
theorem together_prs : (h : Nat) → (a : Tr h) → (key : List UInt8) → (b : Tr h) → rowPrs h (together h a key b) = prs h a ++ prs h b
  | 0, a, _, b => leafRow_prs _
  | h + 1, a, key, b => by
    show rowPrs (h + 1) (innerRow _ _) = _
    rw [innerRow_prs, List.flatMap_append]; rfl
/-- Is a row one page, and small? -/
def lone {h : Nat} (r : Row h) : Option (Tr h) := match r.1 with
  | [pg] => if pgsz h pg < 85 then some pg else none
  | _ => none
/-- What takes the place of a kid: from which kid on, ahead of which, by what. -/
def spliced {h : Nat} (ks : List (List UInt8)) (cs : List (Tr h)) (i : Nat) (r : Row h) : Nat × Nat × Row h := match lone r with
  | none => (i, i + 1, r)
  | some pg => if 0 < i then
      match cs[i - 1]?, ks[i - 1]? with
      | some left, some key => (i - 1, i + 1, together h left key pg)
      | _, _ => (i, i + 1, r)
    else match cs[i + 1]?, ks[i]? with
      | some next, some key => (i, i + 2, together h pg key next)
      | _, _ => (i, i + 1, r)
def replaced {h : Nat} (ks : List (List UInt8)) (cs : List (Tr h)) (i : Nat) (r : Row h) : Row (h + 1) :=
  let s := spliced ks cs i r
  let keys := ks.take s.1 ++ s.2.2.2 ++ ks.drop (s.2.1 - 1)
  let kids := cs.take s.1 ++ s.2.2.1 ++ cs.drop s.2.1
  if keys = [] then ([(([] : List (List UInt8)), kids)], []) else innerRow keys kids
theorem lone_some {h : Nat} {r : Row h} {pg : Tr h} (hl : lone r = some pg) : r.1 = [pg] := by
  unfold lone at hl
  split at hl
  · next x hx =>
    split at hl
    · rw [hx]; injection hl with hl; rw [hl]
    · cases hl
  · cases hl
theorem spliced_prs {h : Nat} (ks : List (List UInt8)) (cs : List (Tr h)) (i : Nat) (r : Row h) (hi : i < cs.length) :
    (cs.take (spliced ks cs i r).1 ++ (spliced ks cs i r).2.2.1 ++ cs.drop (spliced ks cs i r).2.1).flatMap (prs h) = (cs.take i).flatMap (prs h) ++ rowPrs h r ++ (cs.drop (i + 1)).flatMap (prs h) := by
  have base : (cs.take i ++ r.1 ++ cs.drop (i + 1)).flatMap (prs h) = (cs.take i).flatMap (prs h) ++ rowPrs h r ++ (cs.drop (i + 1)).flatMap (prs h) := by
    rw [List.flatMap_append, List.flatMap_append]; rfl
  unfold spliced
  split
  · exact base
  · next pg hl =>
    have hr := lone_some hl
    split
    · next h0 =>
      split
      · next left key h1 h2 =>
        obtain ⟨j, rfl⟩ : ∃ j, i = j + 1 := ⟨i - 1, by omega⟩
        rw [Nat.add_sub_cancel] at h1
        have ht : cs.take (j + 1) = cs.take j ++ [left] := by rw [List.take_add_one, h1]; rfl
        show (cs.take (j + 1 - 1) ++ (together h left key pg).1 ++ cs.drop (j + 1 + 1)).flatMap (prs h) = _
        rw [Nat.add_sub_cancel, List.flatMap_append, List.flatMap_append, ht, List.flatMap_append]
        have := together_prs h left key pg
        unfold rowPrs at this ⊢
        rw [this, hr]
        simp
      · exact base
    · next h0 =>
      split
      · next next key h1 h2 =>
        obtain rfl : i = 0 := by omega
        have hd : cs.drop 1 = next :: cs.drop 2 := by
          obtain ⟨hlt, rfl⟩ := List.getElem?_eq_some_iff.1 h1
          rw [List.drop_eq_getElem_cons hlt]
        show (cs.take 0 ++ (together h pg key next).1 ++ cs.drop 2).flatMap (prs h) = _
        rw [List.flatMap_append, List.flatMap_append, show (0 : Nat) + 1 = 1 from rfl, hd, List.flatMap_cons]
        have := together_prs h pg key next
        unfold rowPrs at this ⊢
        rw [this, hr]
        simp
      · exact base
theorem replaced_prs {h : Nat} (ks : List (List UInt8)) (cs : List (Tr h)) (i : Nat) (r : Row h) (hi : i < cs.length) :
    rowPrs (h + 1) (replaced ks cs i r) = (cs.take i).flatMap (prs h) ++ rowPrs h r ++ (cs.drop (i + 1)).flatMap (prs h) := by
  rw [← spliced_prs ks cs i r hi]
  unfold replaced
  dsimp only
  split
  · show [_].flatMap (fun n : List (List UInt8) × List (Tr h) => n.2.flatMap (prs h)) = _
    simp
  · exact innerRow_prs _ _
/-- Where a key lies in a leaf, or would; the kid in which it lies. -/
def placeOf (ps : List Pr) (k : List UInt8) : Nat := (ps.takeWhile fun p => decide (p.key < k)).length
def wayOf (ks : List (List UInt8)) (k : List UInt8) : Nat := (ks.takeWhile fun x => !decide (k < x)).length
def putL (k v : List UInt8) (ps : List Pr) : List Pr :=
  ps.take (placeOf ps k) ++ ⟨k, v⟩ :: ps.drop (match ps[placeOf ps k]? with | some p => if p.key = k then placeOf ps k + 1 else placeOf ps k | none => placeOf ps k)
/-- The leaf in which a key lies. -/
def leafOf : (h : Nat) → Tr h → List UInt8 → List Pr
  | 0, (ps : List Pr), _ => ps
  | h + 1, (n : List (List UInt8) × List (Tr h)), k => match n.2[wayOf n.1 k]? with
    | some t => leafOf h t k
    | none => []
/-- The pages that take the place of one, where the leaf of a key becomes another. -/
def changed (f : List Pr → List Pr) (k : List UInt8) : (h : Nat) → Tr h → Row h
  | 0, (ps : List Pr) => leafRow (f ps)
  | h + 1, (n : List (List UInt8) × List (Tr h)) => match n.2[wayOf n.1 k]? with
    | some t => replaced n.1 n.2 (wayOf n.1 k) (changed f k h t)
    | none => ([], [])
theorem leafOf_kid {h : Nat} {n : List (List UInt8) × List (Tr h)} {k : List UInt8} {t : Tr h} (ht : n.2[wayOf n.1 k]? = some t) : leafOf (h + 1) n k = leafOf h t k := by
  show (match n.2[wayOf n.1 k]? with | some t => leafOf h t k | none => []) = _
  rw [ht]
theorem changed_kid {h : Nat} {n : List (List UInt8) × List (Tr h)} {f : List Pr → List Pr} {k : List UInt8} {t : Tr h} (ht : n.2[wayOf n.1 k]? = some t) : changed f k (h + 1) n = replaced n.1 n.2 (wayOf n.1 k) (changed f k h t) := by
  show (match n.2[wayOf n.1 k]? with | some t => replaced n.1 n.2 (wayOf n.1 k) (changed f k h t) | none => ([], [])) = _
  rw [ht]
theorem wayOf_le (ks : List (List UInt8)) (k : List UInt8) : wayOf ks k ≤ ks.length := by
  unfold wayOf
  exact (List.takeWhile_sublist _).length_le
/-- Inner pages have a kid more than keys. -/
def Kids : (h : Nat) → Tr h → Prop
  | 0, _ => True
  | h + 1, (n : List (List UInt8) × List (Tr h)) => n.2.length = n.1.length + 1 ∧ ∀ t ∈ n.2, Kids h t
end Pl
end Go.Proofs.YtljmklohgpaopaaGreatDoor
