/- Plain: a disk whose power may fail; a log on it: what the functions compute. No program in sight. -/
import Derived.Test.YtljmklohgpaopaaDoorPlainProof
namespace Go.Proofs.YtljmklohgpaopaaDoor
namespace Pl

structure Sec where
  now : List UInt8
  safe : List UInt8
  broken : Bool
  was : Bool
  fresh : Bool
structure Dk where
  secs : List Sec
  life : Int
def zeros (n : Nat) : List UInt8 := List.replicate n 0
def Sec.empty : Sec := ⟨zeros 256, zeros 256, false, false, false⟩
/-- So many sectors does a disk have that is asked for with this number. -/
def most (n : Int) : Nat := if n < 0 then 0 else if 4096 < n then 4096 else n.toNat
def Dk.new (n : Int) : Dk := ⟨List.replicate (most n) Sec.empty, -1⟩
/-- May a change be done? -/
def Dk.alive (d : Dk) : Bool := decide (d.life < 0 ∨ 1 < d.life)
/-- A changing call is counted. -/
def Dk.tick (d : Dk) : Dk := { d with life := if 0 < d.life then d.life - 1 else d.life }
def Sec.put (s : Sec) (t : List UInt8) : Sec := ⟨t ++ zeros (256 - t.length), s.safe, false, s.was, true⟩
def Sec.flush (s : Sec) : Sec := if s.fresh then ⟨s.now, s.now, s.broken, false, false⟩ else s
inductive Ch where
  | wr (i : Nat) (t : List UInt8)
  | sy
/-- What a change makes of the sectors. -/
def Ch.on (c : Ch) (l : List Sec) : List Sec :=
  match c with
  | .wr i t => l.modify i (·.put t)
  | .sy => l.map Sec.flush
/-- One changing call. -/
def Dk.change (d : Dk) (c : Ch) : Dk := if d.alive then { d.tick with secs := c.on d.secs } else d.tick
/-- Changing calls one behind the other, till one fails: does none? -/
def Dk.run (d : Dk) : List Ch → Dk × Bool
  | [] => (d, true)
  | c :: r => if d.alive then (d.change c).run r else (d.change c, false)
theorem Dk.run_nil (d : Dk) : d.run [] = (d, true) := rfl
theorem Dk.run_cons (d : Dk) (c : Ch) (r : List Ch) : d.run (c :: r) = if d.alive then (d.change c).run r else (d.change c, false) := by rw [Dk.run]
theorem Dk.run_append (d : Dk) (a b : List Ch) : d.run (a ++ b) = if (d.run a).2 then (d.run a).1.run b else ((d.run a).1, false) := by
  induction a generalizing d with
  | nil => rfl
  | cons c r ih =>
    rw [List.cons_append, Dk.run_cons, Dk.run_cons]
    by_cases h : d.alive = true
    · rw [if_pos h, if_pos h, ih]
    · rw [if_neg h, if_neg h]; rfl
/-- A look at a sector: nothing, if it is broken. -/
def Dk.look (d : Dk) (i : Nat) : Option (List UInt8) :=
  match d.secs[i]? with
  | some s => if s.broken then none else some s.now
  | none => none
/-- Which of three things. -/
def three (c : Int) : Nat := ((if c < 0 then -(c + 1) else c) % 3).toNat
def Sec.lose (s : Sec) (c : Nat) : Sec :=
  if c = 0 then ⟨s.safe, s.safe, s.was, s.was, false⟩ else if c = 1 then ⟨s.now, s.now, s.broken, false, false⟩ else ⟨s.now, s.safe, true, true, false⟩
def loses : List Sec → List Int → List Sec
  | [], _ => []
  | s :: l, raw => if s.fresh then s.lose (three (raw.headD 0)) :: loses l raw.tail else s :: loses l raw
def Dk.crash (d : Dk) (raw : List Int) : Dk := ⟨loses d.secs raw, -1⟩
def Dk.die (d : Dk) (at_ : Int) : Dk := if d.life = 0 then d else { d with life := if at_ < 0 then 0 else at_ }

/-- The log's sectors: of an epoch; of a piece. -/
def slotText (e : Nat) : List UInt8 := 72 :: be 8 e
def pieceText (e i : Nat) (more : Bool) (c : List UInt8) : List UInt8 := 76 :: (be 8 e ++ be 4 i ++ [if more then 1 else 0] ++ be 2 c.length ++ c)
/-- The pieces of a payload, from a place on: each with whether more follows. -/
def pieces (p : List UInt8) : List (Bool × List UInt8) :=
  if h : p.length ≤ 240 then [(false, p)] else (true, p.take 240) :: pieces (p.drop 240)
termination_by p.length
decreasing_by rw [List.length_drop]; omega
def chunks (n : Nat) : Nat := (n + 239) / 240

structure Lg where
  first : Nat
  data : Nat
  epoch : Nat
  next : Nat
  all : List (List UInt8)
  bad : Bool
def Lg.at_ (l : Lg) (i : Nat) : Nat := l.first + 2 + i
def Lg.laid (l : Lg) : Nat → List (Bool × List UInt8) → List Ch
  | _, [] => []
  | i, (m, c) :: r => .wr (l.at_ i) (pieceText l.epoch i m c) :: l.laid (i + 1) r
/-- What a log's calls answer: the error's kind. -/
def Lg.append (l : Lg) (d : Dk) (p : List UInt8) : Lg × Dk × Nat :=
  if p.length < 1 ∨ 2000 < p.length then (l, d, 4)
  else if l.data < l.next + chunks p.length then (l, d, 5)
  else if l.bad then (l, d, 3)
  else match d.run (l.laid l.next (pieces p)) with
    | (d', true) => ({ l with next := l.next + chunks p.length, all := l.all ++ [p] }, d', 0)
    | (d', false) => ({ l with bad := true }, d', 3)
def Lg.sync (l : Lg) (d : Dk) : Lg × Dk × Nat :=
  if l.bad then (l, d, 3)
  else match d.run [.sy] with
    | (d', true) => (l, d', 0)
    | (d', false) => ({ l with bad := true }, d', 3)
def Lg.reset (l : Lg) (d : Dk) : Lg × Dk × Nat :=
  if l.bad then (l, d, 3)
  else match d.run [.wr (l.first + (l.epoch + 1) % 2) (slotText (l.epoch + 1)), .sy] with
    | (d', true) => ({ l with epoch := l.epoch + 1, next := 0, all := [] }, d', 0)
    | (d', false) => ({ l with bad := true }, d', 3)
def createOps (first n : Nat) : List Ch := (List.range n).map (fun i => .wr (first + i) []) ++ [.sy, .wr (first + 1) (slotText 1), .sy]
def createLog (d : Dk) (first n : Nat) : Dk × Nat :=
  match d.run (createOps first n) with
  | (d', true) => (d', 0)
  | (d', false) => (d', 3)
/-- The epoch that a slot tells. -/
def slotOf (s : Option (List UInt8)) : Nat :=
  match s with
  | some (72 :: r) => num (r.take 8)
  | _ => 0
/-- Is a sector a piece of this epoch? -/
def ownOf (e : Nat) (s : List UInt8) : Bool := s.headD 0 == 76 && num ((s.drop 1).take 8) == e
def sizeOf (s : List UInt8) : Nat := num ((s.drop 14).take 2)
/-- What is read: the payloads, and how many sectors they take. -/
def scan (e : Nat) : List (Option (List UInt8)) → Nat → List UInt8 → List (List UInt8) → Nat → List (List UInt8) × Nat
  | [], _, _, all, next => (all, next)
  | none :: _, _, _, all, next => (all, next)
  | some s :: r, i, b, all, next =>
    if ownOf e s = true ∧ num ((s.drop 9).take 4) = i ∧ sizeOf s ≤ 240 ∧ b.length + sizeOf s ≤ 2000 then
      if (s.drop 13).headD 0 = 0 then scan e r (i + 1) [] (all ++ [b ++ (s.drop 16).take (sizeOf s)]) (i + 1)
      else scan e r (i + 1) (b ++ (s.drop 16).take (sizeOf s)) all next
    else (all, next)
/-- What stands behind the end and is of this epoch. -/
def stale (d : Dk) (e first next data : Nat) : List Ch :=
  ((List.range data).filter (fun i => next ≤ i ∧ (d.look (first + 2 + i)).any (ownOf e))).map (fun i => .wr (first + 2 + i) [])
def cleaned (l : List Ch) : List Ch := if l.isEmpty then [] else l ++ [.sy]
def openLog (d : Dk) (first n : Nat) : Dk × (Nat ⊕ Lg) :=
  if d.life = 0 then (d, .inl 3)
  else
    let e := max (slotOf (d.look first)) (slotOf (d.look (first + 1)))
    if e = 0 then (d, .inl 2)
    else
      let r := scan e ((List.range (n - 2)).map (fun i => d.look (first + 2 + i))) 0 [] [] 0
      match d.run (cleaned (stale d e first r.2 (n - 2))) with
      | (d', true) => (d', .inr ⟨first, n - 2, e, r.2, r.1, false⟩)
      | (d', false) => (d', .inl 3)

/-- What a log's sectors read, from a place on. -/
def texts (e : Nat) : Nat → List (Bool × List UInt8) → List (Option (List UInt8))
  | _, [] => []
  | i, (m, c) :: r => some (pieceText e i m c ++ zeros (256 - (pieceText e i m c).length)) :: texts e (i + 1) r
theorem texts_length (e : Nat) (l : List (Bool × List UInt8)) : ∀ i, (texts e i l).length = l.length := by
  induction l with
  | nil => intro i; rfl
  | cons a r ih => intro i; obtain ⟨m, c⟩ := a; simp [texts, ih]
theorem texts_append (e : Nat) (a b : List (Bool × List UInt8)) : ∀ i, texts e i (a ++ b) = texts e i a ++ texts e (i + a.length) b := by
  induction a with
  | nil => intro i; simp [texts]
  | cons x r ih => intro i; obtain ⟨m, c⟩ := x; simp [texts, ih]; congr 1; omega
theorem num_be (k v : Nat) (h : v < 256 ^ k) : num (be k v) = v := by
  induction k generalizing v with
  | zero => simp at h; subst h; rfl
  | succ k ih =>
    rw [be_snoc, num_snoc, ih (v / 256) (by rw [Nat.pow_succ] at h; exact Nat.div_lt_of_lt_mul (by rw [Nat.mul_comm]; exact h))]
    simp
    omega
theorem piece_parts (e i : Nat) (m : Bool) (c z : List UInt8) (he : e < 256 ^ 8) (hi : i < 256 ^ 4) (hc : c.length ≤ 240) :
    ownOf e (pieceText e i m c ++ z) = true ∧ num (((pieceText e i m c ++ z).drop 9).take 4) = i ∧ sizeOf (pieceText e i m c ++ z) = c.length ∧
    ((pieceText e i m c ++ z).drop 13).headD 0 = (if m then 1 else 0) ∧ ((pieceText e i m c ++ z).drop 16).take c.length = c := by
  have h8 : (be 8 e).length = 8 := be_length 8 e
  have h4 : (be 4 i).length = 4 := be_length 4 i
  have h2 : (be 2 c.length).length = 2 := be_length 2 _
  have e1 : (pieceText e i m c ++ z).drop 1 = be 8 e ++ (be 4 i ++ ([if m then 1 else 0] ++ (be 2 c.length ++ (c ++ z)))) := by simp [pieceText]
  have e9 : (pieceText e i m c ++ z).drop 9 = be 4 i ++ ([if m then 1 else 0] ++ (be 2 c.length ++ (c ++ z))) := by
    rw [show (9 : Nat) = 1 + 8 from rfl, ← List.drop_drop, e1, List.drop_left' h8]
  have e13 : (pieceText e i m c ++ z).drop 13 = [if m then 1 else 0] ++ (be 2 c.length ++ (c ++ z)) := by
    rw [show (13 : Nat) = 9 + 4 from rfl, ← List.drop_drop, e9, List.drop_left' h4]
  have e14 : (pieceText e i m c ++ z).drop 14 = be 2 c.length ++ (c ++ z) := by
    rw [show (14 : Nat) = 13 + 1 from rfl, ← List.drop_drop, e13]; rfl
  have e16 : (pieceText e i m c ++ z).drop 16 = c ++ z := by
    rw [show (16 : Nat) = 14 + 2 from rfl, ← List.drop_drop, e14, List.drop_left' h2]
  refine ⟨?_, ?_, ?_, ?_, ?_⟩
  · unfold ownOf
    rw [e1, List.take_left' h8, num_be 8 e he]
    simp [pieceText]
  · rw [e9, List.take_left' h4, num_be 4 i hi]
  · unfold sizeOf
    rw [e14, List.take_left' h2, num_be 2 _ (by omega)]
  · rw [e13]; rfl
  · rw [e16, List.take_left' rfl]
theorem scan_pieces (e : Nat) (he : e < 256 ^ 8) (rest : List (Option (List UInt8))) (n : Nat) : ∀ (p b : List UInt8) (i : Nat) (all : List (List UInt8)) (nx : Nat), p.length ≤ n → i + (pieces p).length < 256 ^ 4 → b.length + p.length ≤ 2000 →
    scan e (texts e i (pieces p) ++ rest) i b all nx = scan e rest (i + (pieces p).length) [] (all ++ [b ++ p]) (i + (pieces p).length) := by
  induction n with
  | zero =>
    intro p b i all nx hp hi hb
    obtain rfl : p = [] := List.eq_nil_of_length_eq_zero (by omega)
    rw [pieces, dif_pos (by simp)] at hi ⊢
    obtain ⟨h1, h2, h3, h4, h5⟩ := piece_parts e i false [] (zeros (256 - (pieceText e i false []).length)) he (by simp at hi; omega) (by simp)
    simp only [texts, List.cons_append, List.nil_append, scan]
    rw [h3, if_pos ⟨h1, h2, by simp, by simpa using hb⟩, if_pos (by rw [h4]; rfl), h5]
    rfl
  | succ n ih =>
    intro p b i all nx hp hi hb
    by_cases hs : p.length ≤ 240
    · rw [pieces, dif_pos hs] at hi ⊢
      obtain ⟨h1, h2, h3, h4, h5⟩ := piece_parts e i false p (zeros (256 - (pieceText e i false p).length)) he (by simp at hi; omega) hs
      simp only [texts, List.cons_append, List.nil_append, scan]
      rw [h3, if_pos ⟨h1, h2, hs, hb⟩, if_pos (by rw [h4]; rfl), h5]
      rfl
    · rw [pieces, dif_neg hs] at hi ⊢
      have hl : (p.take 240).length = 240 := by simp; omega
      obtain ⟨h1, h2, h3, h4, h5⟩ := piece_parts e i true (p.take 240) (zeros (256 - (pieceText e i true (p.take 240)).length)) he (by simp at hi; omega) (by omega)
      simp only [List.length_cons] at hi
      simp only [texts, List.cons_append, scan]
      rw [h3, if_pos ⟨h1, h2, by omega, by omega⟩, if_neg (by rw [h4]; decide), h5, ih (p.drop 240) _ (i + 1) all nx (by simp; omega) (by omega) (by simp; omega)]
      rw [List.append_assoc, List.take_append_drop, List.length_cons, show i + 1 + (pieces (p.drop 240)).length = i + ((pieces (p.drop 240)).length + 1) by omega]
theorem pieces_length (n : Nat) : ∀ p : List UInt8, p.length ≤ n → 1 ≤ p.length → (pieces p).length = chunks p.length := by
  induction n with
  | zero => intro p h1 h2; omega
  | succ n ih =>
    intro p h1 h2
    rw [pieces]
    by_cases hs : p.length ≤ 240
    · rw [dif_pos hs]; unfold chunks; simp; omega
    · rw [dif_neg hs, List.length_cons, ih (p.drop 240) (by simp; omega) (by simp; omega)]
      unfold chunks
      simp
      omega
/-- The pieces of all that a log has. -/
def flat (all : List (List UInt8)) : List (Bool × List UInt8) := all.flatMap pieces
theorem scan_all (e : Nat) (he : e < 256 ^ 8) (rest : List (Option (List UInt8))) : ∀ (all : List (List UInt8)) (i : Nat) (pre : List (List UInt8)), i + (flat all).length < 256 ^ 4 → (∀ p ∈ all, p.length ≤ 2000) →
    scan e (texts e i (flat all) ++ rest) i [] pre i = scan e rest (i + (flat all).length) [] (pre ++ all) (i + (flat all).length) := by
  intro all
  induction all with
  | nil => intro i pre _ _; simp [flat, texts]
  | cons p r ih =>
    intro i pre hi hp
    have hf : flat (p :: r) = pieces p ++ flat r := rfl
    rw [hf, List.length_append] at hi ⊢
    rw [texts_append, List.append_assoc, scan_pieces e he _ p.length p [] i pre i (Nat.le_refl _) (by omega) (by simpa using hp p (by simp)), List.nil_append, ih (i + (pieces p).length) (pre ++ [p]) (by omega) (fun q hq => hp q (by simp [hq]))]
    rw [List.append_assoc, Nat.add_assoc]
    rfl
theorem scan_stop (e : Nat) (l : List (Option (List UInt8))) (i : Nat) (b : List UInt8) (all : List (List UInt8)) (nx : Nat) (h : ∀ s, l[0]? = some (some s) → ownOf e s = false) : scan e l i b all nx = (all, nx) := by
  match l with
  | [] => rfl
  | none :: _ => rfl
  | some s :: r =>
    have := h s rfl
    simp [scan, this]
end Pl
end Go.Proofs.YtljmklohgpaopaaDoor
