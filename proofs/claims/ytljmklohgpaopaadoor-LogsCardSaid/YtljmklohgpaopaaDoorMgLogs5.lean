/- The walks of the harness's lentAll and stayAll. Plain facts on headers and what leads from one to another: no program in sight. Plain facts on evidence: how it is taken apart, what it must be; no program in sight. Plain: a disk whose power may fail; a log on it: what the functions compute. No program in sight. The disk in memory: a predicate, and its laws. -/
import Derived.Test.YtljmklohgpaopaaDoorMgLogs4
import Derived.Test.YtljmklohgpaopaaDoorMgLogs2
import Derived.Test.YtljmklohgpaopaaDoorMgLogs3
import Derived.Laws.OwnMore

namespace Go.Proofs.YtljmklohgpaopaaDoor
open Go.RowKit

def lentV (g : Nat) (s : ByteArray) : Value := .slice (some ⟨g, 0, none⟩) s.size (s.size + 2)
def lc (gs : List Nat) (ss : List ByteArray) : List Value := List.zipWith lentV gs ss
theorem lc_len {gs : List Nat} {ss : List ByteArray} (h : gs.length = ss.length) : (lc gs ss).length = ss.length := by simp [lc, h]
theorem lc_snoc {gs : List Nat} {ss : List ByteArray} (h : gs.length = ss.length) (g : Nat) (s : ByteArray) : lc (gs ++ [g]) (ss ++ [s]) = lc gs ss ++ [lentV g s] := by
  simp [lc, List.zipWith_append h]
theorem lc_get {gs : List Nat} {ss : List ByteArray} {k g : Nat} {s : ByteArray} (hg : gs[k]? = some g) (hs : ss[k]? = some s) : (lc gs ss)[k]? = some (lentV g s) := by
  simp [lc, List.getElem?_zipWith, hg, hs]

/-- v is a row, of the call's own, of slices that 'lent' made. -/
structure Lent (w : World) (base : Nat) (v : Value) (gs : List Nat) (ss : List ByteArray) : Prop where
  len : gs.length = ss.length
  own : w.ownsRow base 23 1 v ss.length (lc gs ss)
  blk : ∀ (k g : Nat) (s : ByteArray), gs[k]? = some g → ss[k]? = some s → Blk w g 5 (lentRow s.data.toList)
  nodup : gs.Nodup
  far : ∀ g ∈ gs, base ≤ g ∧ v.ownBlock ≠ some g

theorem Lent.nil (w : World) (base : Nat) : Lent w base (.slice none 0 0) [] [] :=
  ⟨rfl, World.ownsRow_nil _ _ _ _, fun k g s h => by simp at h, List.nodup_nil, fun g h => by simp at h⟩
theorem Lent.lt {w : World} {base : Nat} {v : Value} {gs : List Nat} {ss : List ByteArray} (h : Lent w base v gs ss) : ∀ g ∈ gs, g < w.heap.size := by
  intro g hg
  obtain ⟨k, hk⟩ := List.mem_iff_getElem?.1 hg
  have hkl : k < ss.length := by
    rw [← h.len]
    rcases Nat.lt_or_ge k gs.length with h' | h'
    · exact h'
    · rw [List.getElem?_eq_none h'] at hk; cases hk
  exact (h.blk k g _ hk (List.getElem?_eq_getElem hkl)).lt
theorem Lent.below {w w' : World} {base : Nat} {v : Value} {gs : List Nat} {ss : List ByteArray} (h : Lent w base v gs ss) (hb : Below w.heap.size w w') : Lent w' base v gs ss :=
  ⟨h.len, own_below h.own hb, fun k g s h1 h2 => (h.blk k g s h1 h2).below hb (h.blk k g s h1 h2).lt, h.nodup, h.far⟩
/-- One more. -/
theorem Lent.snoc {w w3 : World} {base : Nat} {v v3 : Value} {gs : List Nat} {ss : List ByteArray} {s : ByteArray} {o : Obj} (h : Lent w base v gs ss) (hbase : base ≤ w.heap.size)
    (hown : w3.ownsRow base 23 1 v3 (ss.length + 1) (lc gs ss ++ [lentV w.heap.size s]))
    (hgrow : ((w.alloc (.cells (lentRow s.data.toList).toArray 5)).alloc o).grownBy w3 v.ownBlock)
    (hat : v3.ownBlock = v.ownBlock ∨ v3.ownBlock = some ((w.alloc (.cells (lentRow s.data.toList).toArray 5)).alloc o).heap.size) :
    Lent w3 base v3 (gs ++ [w.heap.size]) (ss ++ [s]) := by
  have hlt := h.lt
  have hvne : v.ownBlock ≠ some w.heap.size := fun e => by have := (h.own.lt _ e).2; omega
  have hw := ((Below.refl w.heap.size w).alloc (Nat.le_refl _) (.cells (lentRow s.data.toList).toArray 5)).alloc (by simp) o
  refine ⟨by simp [h.len], by rw [List.length_append, lc_snoc h.len]; exact hown, ?_, ?_, ?_⟩
  · intro k g u hg hu
    rw [List.getElem?_append] at hg hu
    rw [h.len] at hg
    split at hg
    · rename_i hk
      rw [if_pos hk] at hu
      have hb := h.blk k g u hg hu
      have hmem := List.mem_of_getElem? hg
      exact (hb.below hw (hlt g hmem)).grown hgrow (fun e => (h.far g hmem).2 e.symm)
    · rename_i hk
      rw [if_neg hk] at hu
      have h1 : k - ss.length = 0 := by
        rcases Nat.eq_zero_or_pos (k - ss.length) with h0 | h0
        · exact h0
        · rw [List.getElem?_eq_none (by simp; omega)] at hg; cases hg
      rw [h1] at hg hu
      simp only [List.getElem?_cons_zero, Option.some.injEq] at hg hu
      subst hg hu
      exact ((Blk.new w 5 (lentRow s.data.toList)).alloc o).grown hgrow (fun e => hvne e.symm)
  · rw [List.nodup_append]
    refine ⟨h.nodup, by simp, fun a ha b hb => ?_⟩
    simp at hb
    have := hlt a ha
    omega
  · intro g hg
    rcases List.mem_append.1 hg with hg | hg
    · refine ⟨(h.far g hg).1, ?_⟩
      rcases hat with e | e
      · rw [e]; exact (h.far g hg).2
      · rw [e]
        have := hlt g hg
        simp
        omega
    · simp at hg
      subst hg
      refine ⟨hbase, ?_⟩
      rcases hat with e | e
      · rw [e]; exact hvne
      · rw [e]
        simp
        omega

theorem Tryd.infoSlice : (Tryd.prog.info? 23).map (fun i => (i.zero, i.size, i.bytes)) = some (some (.slice none 0 0), 1, 24) := by kernel_rfl

theorem slice_room {n m : Nat} (h : n + m ≤ 8796093022208) : ∀ old, old < n + m → Builtin.nextslicecap (n + m) old * 24 ≤ 281474976710656 := by
  intro old ho
  have := nextslicecap_le54 ho
  omega

theorem own_addr {w : World} {base : Nat} {e : TypeId} {size n : Nat} {v : Value} {xs : List Value} (h : w.ownsRow base e size v n xs) (hn : 0 < n) : ∃ g cap, v = .slice (some ⟨g, 0, none⟩) n cap ∧ base ≤ g ∧ n ≤ cap := by
  rcases h.2 with ⟨_, h0⟩ | ⟨g, cap, cur, hv, hb, _, hc, _⟩
  · omega
  · exact ⟨g, cap, hv, hb, hc⟩
theorem own_at {w : World} {base g cap : Nat} {e : TypeId} {size n : Nat} {xs : List Value} (h : w.ownsRow base e size (.slice (some ⟨g, 0, none⟩) n cap) n xs) (j : Nat) (u : Value) (hu : xs[j]? = some u) : w.cell? ⟨g, j, none⟩ = some u := by
  have := h.cells (g := g) rfl j u hu
  rwa [addr_add, Nat.zero_add] at this

end Go.Proofs.YtljmklohgpaopaaDoor

namespace Go.Proofs.YtljmklohgpaopaaDoor
namespace Pl

theorem be_get (s x j : Nat) (h : j < s) : (be s x)[j]? = some (UInt8.ofNat (x / 256 ^ (s - 1 - j))) := by
  induction s generalizing j with
  | zero => omega
  | succ s ih =>
    match j with
    | 0 => simp [be]
    | j + 1 =>
      rw [be, List.getElem?_cons_succ, ih j (by omega)]
      congr 4
      omega
theorem be_take_succ (s x j : Nat) (h : j < s) : (be s x).take (j + 1) = (be s x).take j ++ [UInt8.ofNat (x / 256 ^ (s - 1 - j))] := by
  have hl : j < (be s x).length := by rw [be_length]; exact h
  rw [List.take_succ_eq_append_getElem hl]
  have := be_get s x j h
  rw [List.getElem?_eq_getElem hl] at this
  rw [Option.some.inj this]

/-- A header: its block, the hash ahead, the root. -/
def header (b h r : Nat) : List UInt8 := 66 :: (be 4 b ++ be 4 h ++ be 4 r)
theorem header_length (b h r : Nat) : (header b h r).length = 13 := by simp [header, be_length]
/-- Where headers lead. -/
def heads (b h : Nat) (l : List UInt8) : Option Nat :=
  if hl : l.length < 13 then some h
  else if b < 4294967296 ∧ l.take 9 = 66 :: (be 4 b ++ be 4 h) then heads (b + 1) (sumN (l.take 13)) (l.drop 13)
  else none
termination_by l.length
decreasing_by rw [List.length_drop]; omega
theorem heads_short (b h : Nat) (l : List UInt8) (hl : l.length < 13) : heads b h l = some h := by rw [heads]; simp [hl]
theorem heads_go (b h : Nat) (l : List UInt8) (hl : 13 ≤ l.length) (hb : b < 4294967296) (he : l.take 9 = 66 :: (be 4 b ++ be 4 h)) : heads b h l = heads (b + 1) (sumN (l.take 13)) (l.drop 13) := by
  rw [heads, dif_neg (by omega), if_pos ⟨hb, he⟩]
theorem heads_bad (b h : Nat) (l : List UInt8) (hl : 13 ≤ l.length) (hn : ¬ (b < 4294967296 ∧ l.take 9 = 66 :: (be 4 b ++ be 4 h))) : heads b h l = none := by
  rw [heads, dif_neg (by omega), if_neg hn]
/-- Does a proof lead from one digest to another? -/
def extends_ (old : Int) (h : Nat) (to : Int) (g : Nat) (l : List UInt8) : Bool :=
  if old < 0 ∨ (old = 0 ∧ h ≠ 0) ∨ to < old ∨ l.length % 13 ≠ 0 ∨ ((l.length / 13 : Nat) : Int) ≠ to - old then false else heads (old.toNat + 1) h l == some g
end Pl
end Go.Proofs.YtljmklohgpaopaaDoor

namespace Go.Proofs.YtljmklohgpaopaaDoor
namespace Pl

/-- What evidence is made of. -/
structure Ev where
  n : List UInt8
  op : List UInt8
  ops : List UInt8
  time : List UInt8
  text : List UInt8
  p : List UInt8
  q : List UInt8
  last : List UInt8
  rest : List UInt8

/-- So many bytes are taken, or there is too little. -/
def bt (m : Nat) (l : List UInt8) (f : List UInt8 → List UInt8 → Option Ev) : Option Ev := if m ≤ l.length then f (l.take m) (l.drop m) else none
def parse (l : List UInt8) : Option Ev :=
  bt 4 l fun n l => bt 1 l fun op l => bt 1 l fun ops l => bt 8 l fun time l => bt 2 l fun k l => bt (num k) l fun text l =>
  bt 1 l fun k l => bt (4 * num k) l fun p l => bt 1 l fun k l => bt (4 * num k) l fun q l => bt 4 l fun last l => some ⟨n, op, ops, time, text, p, q, last, l⟩

/-- How a reader stands: it is bad, and there is no evidence; or the rest tells. -/
def St (o : Option Ev) (bad : Bool) (k : Option Ev) : Prop := (bad = true ∧ o = none) ∨ (bad = false ∧ o = k)
theorem St.start (o : Option Ev) : St o false o := .inr ⟨rfl, rfl⟩
theorem St.take {o : Option Ev} {bad : Bool} {m : Nat} {l : List UInt8} {f : List UInt8 → List UInt8 → Option Ev} (h : St o bad (bt m l f)) : St o (bad || decide (l.length < m)) (f (l.take m) (l.drop m)) := by
  rcases h with ⟨rfl, h⟩ | ⟨rfl, h⟩
  · exact .inl ⟨rfl, h⟩
  · unfold bt at h
    by_cases hm : m ≤ l.length
    · rw [if_pos hm] at h
      exact .inr ⟨by simp; omega, h⟩
    · rw [if_neg hm] at h
      exact .inl ⟨by simp; omega, h⟩
theorem St.bad {o : Option Ev} {k : Option Ev} (h : St o true k) (k' : Option Ev) : St o true k' := by
  rcases h with h | ⟨h, _⟩
  · exact .inl h
  · cases h
theorem St.short {o : Option Ev} {bad : Bool} {m : Nat} {l : List UInt8} {f : List UInt8 → List UInt8 → Option Ev} (h : St o bad (bt m l f)) (hl : l.length < m) (k' : Option Ev) : St o true k' := by
  have := h.take
  rw [decide_eq_true hl, Bool.or_true] at this
  exact this.bad k'

/-- What is laid down of a transaction. -/
def entry (n : Nat) (time : List UInt8) (ops r : Nat) : List UInt8 := be 4 n ++ time ++ [UInt8.ofNat ops] ++ be 4 r
/-- Is it as it must be? -/
def Fits (e : Ev) : Prop := 1 ≤ num e.n ∧ num e.op < num e.ops ∧ num e.ops ≤ 16 ∧ (groups e.p).length = depth (num e.op) (num e.ops) ∧ (groups e.q).length = depth ((num e.n - 1) % 3) 3 ∧
  ((num e.n - 1) / 3 + 1 = 1 → num e.last = 0)
def blockOf (e : Ev) : Nat := (num e.n - 1) / 3 + 1
def headOf (e : Ev) : List UInt8 :=
  header (blockOf e) (num e.last) (climb (entry (num e.n) e.time (num e.ops) (climb e.text (num e.op) (num e.ops) (groups e.p))) ((num e.n - 1) % 3) 3 (groups e.q))
instance (e : Ev) : Decidable (Fits e) := by unfold Fits; infer_instance
/-- The op that evidence shows, if it leads to the digest. -/
def attested (l : List UInt8) (more : Int) (g : Nat) : Option (List UInt8) :=
  match parse l with
  | none => none
  | some e => if Fits e ∧ extends_ (blockOf e : Nat) (sumN (headOf e)) more g e.rest = true then some e.text else none
theorem attested_none {l : List UInt8} {more : Int} {g : Nat} (h : parse l = none) : attested l more g = none := by unfold attested; rw [h]
theorem attested_unfit {l : List UInt8} {more : Int} {g : Nat} {e : Ev} (h : parse l = some e) (hf : ¬ Fits e) : attested l more g = none := by
  unfold attested; rw [h]; simp [hf]
theorem attested_fit {l : List UInt8} {more : Int} {g : Nat} {e : Ev} (h : parse l = some e) (hf : Fits e) :
    attested l more g = if extends_ (blockOf e : Nat) (sumN (headOf e)) more g e.rest = true then some e.text else none := by
  unfold attested; rw [h]; simp [hf]

theorem snoc_ind {P : List UInt8 → Prop} (h0 : P []) (h1 : ∀ l c, P l → P (l ++ [c])) (l : List UInt8) : P l := by
  have h : ∀ r : List UInt8, P r.reverse := by
    intro r
    induction r with
    | nil => exact h0
    | cons c r ih => rw [List.reverse_cons]; exact h1 _ _ ih
  simpa using h l.reverse
theorem num_snoc (l : List UInt8) (c : UInt8) : num (l ++ [c]) = 256 * num l + c.toNat := by simp [num]
theorem num_lt (l : List UInt8) : num l < 256 ^ l.length := by
  refine snoc_ind (P := fun l => num l < 256 ^ l.length) (by simp [num]) (fun l c ih => ?_) l
  rw [num_snoc, List.length_append, List.length_singleton, Nat.pow_succ]
  have := c.toNat_lt
  omega
theorem num_take_lt (l : List UInt8) (k : Nat) : num (l.take k) < 256 ^ k :=
  Nat.lt_of_lt_of_le (num_lt _) (Nat.pow_le_pow_right (by decide) (by simp; omega))
theorem be_snoc (k v : Nat) : be (k + 1) v = be k (v / 256) ++ [UInt8.ofNat v] := by
  induction k generalizing v with
  | zero => simp [be]
  | succ k ih =>
    rw [be, ih v, be, List.cons_append]
    congr 2
    rw [Nat.div_div_eq_div_mul, Nat.pow_succ, Nat.mul_comm]
theorem be_num (l : List UInt8) : be l.length (num l) = l := by
  refine snoc_ind (P := fun l => be l.length (num l) = l) rfl (fun l c ih => ?_) l
  rw [List.length_append, List.length_singleton, be_snoc, num_snoc]
  have := c.toNat_lt
  rw [show (256 * num l + c.toNat) / 256 = num l by omega, ih]
  congr 2
  apply UInt8.toNat_inj.1
  simp
theorem hashOf_four (l : List UInt8) (h : l.length = 4) : hashOf l = num l := by
  unfold hashOf
  rw [← h, List.take_left]
theorem groups_take4 (l : List UInt8) (k : Nat) (h : 4 * k ≤ l.length) : (groups (l.take (4 * k))).length = k := by
  rw [groups_length, List.length_take]; omega

theorem parse_some {l : List UInt8} {e : Ev} (h : parse l = some e) : e.n.length = 4 ∧ e.op.length = 1 ∧ e.ops.length = 1 ∧ e.time.length = 8 ∧ e.last.length = 4 ∧ e.text.length ≤ l.length ∧ e.rest.length ≤ l.length ∧ e.p.length % 4 = 0 ∧ e.q.length % 4 = 0 := by
  unfold parse bt at h
  simp only [Option.ite_none_right_eq_some] at h
  obtain ⟨h1, h2, h3, h4, h5, h6, h7, h8, h9, h10, h11, h12⟩ := h
  cases h12
  simp only [List.length_take, List.length_drop] at *
  refine ⟨by omega, by omega, by omega, by omega, by omega, by omega, by omega, by omega, by omega⟩
end Pl
end Go.Proofs.YtljmklohgpaopaaDoor

namespace Go.Proofs.YtljmklohgpaopaaDoor
namespace Pl

structure Sec where
  now : List UInt8
  safe : List UInt8
  broken : Bool
  was : Bool
  fresh : Bool
structure Dk where
  secs : List Sec
  life : Int
def zeros (n : Nat) : List UInt8 := List.replicate n 0
def Sec.empty : Sec := ⟨zeros 256, zeros 256, false, false, false⟩
/-- So many sectors does a disk have that is asked for with this number. -/
def most (n : Int) : Nat := if n < 0 then 0 else if 4096 < n then 4096 else n.toNat
def Dk.new (n : Int) : Dk := ⟨List.replicate (most n) Sec.empty, -1⟩
/-- May a change be done? -/
def Dk.alive (d : Dk) : Bool := decide (d.life < 0 ∨ 1 < d.life)
/-- A changing call is counted. -/
def Dk.tick (d : Dk) : Dk := { d with life := if 0 < d.life then d.life - 1 else d.life }
def Sec.put (s : Sec) (t : List UInt8) : Sec := ⟨t ++ zeros (256 - t.length), s.safe, false, s.was, true⟩
def Sec.flush (s : Sec) : Sec := if s.fresh then ⟨s.now, s.now, s.broken, false, false⟩ else s
inductive Ch where
  | wr (i : Nat) (t : List UInt8)
  | sy
/-- What a change makes of the sectors. -/
def Ch.on (c : Ch) (l : List Sec) : List Sec :=
  match c with
  | .wr i t => l.modify i (·.put t)
  | .sy => l.map Sec.flush
/-- One changing call. -/
def Dk.change (d : Dk) (c : Ch) : Dk := if d.alive then { d.tick with secs := c.on d.secs } else d.tick
/-- Changing calls one behind the other, till one fails: does none? -/
def Dk.run (d : Dk) : List Ch → Dk × Bool
  | [] => (d, true)
  | c :: r => if d.alive then (d.change c).run r else (d.change c, false)
theorem Dk.run_nil (d : Dk) : d.run [] = (d, true) := rfl
theorem Dk.run_cons (d : Dk) (c : Ch) (r : List Ch) : d.run (c :: r) = if d.alive then (d.change c).run r else (d.change c, false) := by rw [Dk.run]
theorem Dk.run_append (d : Dk) (a b : List Ch) : d.run (a ++ b) = if (d.run a).2 then (d.run a).1.run b else ((d.run a).1, false) := by
  induction a generalizing d with
  | nil => rfl
  | cons c r ih =>
    rw [List.cons_append, Dk.run_cons, Dk.run_cons]
    by_cases h : d.alive = true
    · rw [if_pos h, if_pos h, ih]
    · rw [if_neg h, if_neg h]; rfl
/-- A look at a sector: nothing, if it is broken. -/
def Dk.look (d : Dk) (i : Nat) : Option (List UInt8) :=
  match d.secs[i]? with
  | some s => if s.broken then none else some s.now
  | none => none
/-- Which of three things. -/
def three (c : Int) : Nat := ((if c < 0 then -(c + 1) else c) % 3).toNat
def Sec.lose (s : Sec) (c : Nat) : Sec :=
  if c = 0 then ⟨s.safe, s.safe, s.was, s.was, false⟩ else if c = 1 then ⟨s.now, s.now, s.broken, false, false⟩ else ⟨s.now, s.safe, true, true, false⟩
def loses : List Sec → List Int → List Sec
  | [], _ => []
  | s :: l, raw => if s.fresh then s.lose (three (raw.headD 0)) :: loses l raw.tail else s :: loses l raw
def Dk.crash (d : Dk) (raw : List Int) : Dk := ⟨loses d.secs raw, -1⟩
def Dk.die (d : Dk) (at_ : Int) : Dk := if d.life = 0 then d else { d with life := if at_ < 0 then 0 else at_ }

/-- The log's sectors: of an epoch; of a piece. -/
def slotText (e : Nat) : List UInt8 := 72 :: be 8 e
def pieceText (e i : Nat) (more : Bool) (c : List UInt8) : List UInt8 := 76 :: (be 8 e ++ be 4 i ++ [if more then 1 else 0] ++ be 2 c.length ++ c)
/-- The pieces of a payload, from a place on: each with whether more follows. -/
def pieces (p : List UInt8) : List (Bool × List UInt8) :=
  if h : p.length ≤ 240 then [(false, p)] else (true, p.take 240) :: pieces (p.drop 240)
termination_by p.length
decreasing_by rw [List.length_drop]; omega
def chunks (n : Nat) : Nat := (n + 239) / 240

structure Lg where
  first : Nat
  data : Nat
  epoch : Nat
  next : Nat
  all : List (List UInt8)
  bad : Bool
def Lg.at_ (l : Lg) (i : Nat) : Nat := l.first + 2 + i
def Lg.laid (l : Lg) : Nat → List (Bool × List UInt8) → List Ch
  | _, [] => []
  | i, (m, c) :: r => .wr (l.at_ i) (pieceText l.epoch i m c) :: l.laid (i + 1) r
/-- What a log's calls answer: the error's kind. -/
def Lg.append (l : Lg) (d : Dk) (p : List UInt8) : Lg × Dk × Nat :=
  if p.length < 1 ∨ 2000 < p.length then (l, d, 4)
  else if l.data < l.next + chunks p.length then (l, d, 5)
  else if l.bad then (l, d, 3)
  else match d.run (l.laid l.next (pieces p)) with
    | (d', true) => ({ l with next := l.next + chunks p.length, all := l.all ++ [p] }, d', 0)
    | (d', false) => ({ l with bad := true }, d', 3)
def Lg.sync (l : Lg) (d : Dk) : Lg × Dk × Nat :=
  if l.bad then (l, d, 3)
  else match d.run [.sy] with
    | (d', true) => (l, d', 0)
    | (d', false) => ({ l with bad := true }, d', 3)
def Lg.reset (l : Lg) (d : Dk) : Lg × Dk × Nat :=
  if l.bad then (l, d, 3)
  else match d.run [.wr (l.first + (l.epoch + 1) % 2) (slotText (l.epoch + 1)), .sy] with
    | (d', true) => ({ l with epoch := l.epoch + 1, next := 0, all := [] }, d', 0)
    | (d', false) => ({ l with bad := true }, d', 3)
def createOps (first n : Nat) : List Ch := (List.range n).map (fun i => .wr (first + i) []) ++ [.sy, .wr (first + 1) (slotText 1), .sy]
def createLog (d : Dk) (first n : Nat) : Dk × Nat :=
  match d.run (createOps first n) with
  | (d', true) => (d', 0)
  | (d', false) => (d', 3)
/-- The epoch that a slot tells. -/
def slotOf (s : Option (List UInt8)) : Nat :=
  match s with
  | some (72 :: r) => num (r.take 8)
  | _ => 0
/-- Is a sector a piece of this epoch? -/
def ownOf (e : Nat) (s : List UInt8) : Bool := s.headD 0 == 76 && num ((s.drop 1).take 8) == e
def sizeOf (s : List UInt8) : Nat := num ((s.drop 14).take 2)
/-- What is read: the payloads, and how many sectors they take. -/
def scan (e : Nat) : List (Option (List UInt8)) → Nat → List UInt8 → List (List UInt8) → Nat → List (List UInt8) × Nat
  | [], _, _, all, next => (all, next)
  | none :: _, _, _, all, next => (all, next)
  | some s :: r, i, b, all, next =>
    if ownOf e s = true ∧ num ((s.drop 9).take 4) = i ∧ sizeOf s ≤ 240 ∧ b.length + sizeOf s ≤ 2000 then
      if (s.drop 13).headD 0 = 0 then scan e r (i + 1) [] (all ++ [b ++ (s.drop 16).take (sizeOf s)]) (i + 1)
      else scan e r (i + 1) (b ++ (s.drop 16).take (sizeOf s)) all next
    else (all, next)
/-- What stands behind the end and is of this epoch. -/
def stale (d : Dk) (e first next data : Nat) : List Ch :=
  ((List.range data).filter (fun i => next ≤ i ∧ (d.look (first + 2 + i)).any (ownOf e))).map (fun i => .wr (first + 2 + i) [])
def cleaned (l : List Ch) : List Ch := if l.isEmpty then [] else l ++ [.sy]
def openLog (d : Dk) (first n : Nat) : Dk × (Nat ⊕ Lg) :=
  if d.life = 0 then (d, .inl 3)
  else
    let e := max (slotOf (d.look first)) (slotOf (d.look (first + 1)))
    if e = 0 then (d, .inl 2)
    else
      let r := scan e ((List.range (n - 2)).map (fun i => d.look (first + 2 + i))) 0 [] [] 0
      match d.run (cleaned (stale d e first r.2 (n - 2))) with
      | (d', true) => (d', .inr ⟨first, n - 2, e, r.2, r.1, false⟩)
      | (d', false) => (d', .inl 3)

/-- What a log's sectors read, from a place on. -/
def texts (e : Nat) : Nat → List (Bool × List UInt8) → List (Option (List UInt8))
  | _, [] => []
  | i, (m, c) :: r => some (pieceText e i m c ++ zeros (256 - (pieceText e i m c).length)) :: texts e (i + 1) r
theorem texts_length (e : Nat) (l : List (Bool × List UInt8)) : ∀ i, (texts e i l).length = l.length := by
  induction l with
  | nil => intro i; rfl
  | cons a r ih => intro i; obtain ⟨m, c⟩ := a; simp [texts, ih]
theorem texts_append (e : Nat) (a b : List (Bool × List UInt8)) : ∀ i, texts e i (a ++ b) = texts e i a ++ texts e (i + a.length) b := by
  induction a with
  | nil => intro i; simp [texts]
  | cons x r ih => intro i; obtain ⟨m, c⟩ := x; simp [texts, ih]; congr 1; omega
theorem num_be (k v : Nat) (h : v < 256 ^ k) : num (be k v) = v := by
  induction k generalizing v with
  | zero => simp at h; subst h; rfl
  | succ k ih =>
    rw [be_snoc, num_snoc, ih (v / 256) (by rw [Nat.pow_succ] at h; exact Nat.div_lt_of_lt_mul (by rw [Nat.mul_comm]; exact h))]
    simp
    omega
theorem piece_parts (e i : Nat) (m : Bool) (c z : List UInt8) (he : e < 256 ^ 8) (hi : i < 256 ^ 4) (hc : c.length ≤ 240) :
    ownOf e (pieceText e i m c ++ z) = true ∧ num (((pieceText e i m c ++ z).drop 9).take 4) = i ∧ sizeOf (pieceText e i m c ++ z) = c.length ∧
    ((pieceText e i m c ++ z).drop 13).headD 0 = (if m then 1 else 0) ∧ ((pieceText e i m c ++ z).drop 16).take c.length = c := by
  have h8 : (be 8 e).length = 8 := be_length 8 e
  have h4 : (be 4 i).length = 4 := be_length 4 i
  have h2 : (be 2 c.length).length = 2 := be_length 2 _
  have e1 : (pieceText e i m c ++ z).drop 1 = be 8 e ++ (be 4 i ++ ([if m then 1 else 0] ++ (be 2 c.length ++ (c ++ z)))) := by simp [pieceText]
  have e9 : (pieceText e i m c ++ z).drop 9 = be 4 i ++ ([if m then 1 else 0] ++ (be 2 c.length ++ (c ++ z))) := by
    rw [show (9 : Nat) = 1 + 8 from rfl, ← List.drop_drop, e1, List.drop_left' h8]
  have e13 : (pieceText e i m c ++ z).drop 13 = [if m then 1 else 0] ++ (be 2 c.length ++ (c ++ z)) := by
    rw [show (13 : Nat) = 9 + 4 from rfl, ← List.drop_drop, e9, List.drop_left' h4]
  have e14 : (pieceText e i m c ++ z).drop 14 = be 2 c.length ++ (c ++ z) := by
    rw [show (14 : Nat) = 13 + 1 from rfl, ← List.drop_drop, e13]; rfl
  have e16 : (pieceText e i m c ++ z).drop 16 = c ++ z := by
    rw [show (16 : Nat) = 14 + 2 from rfl, ← List.drop_drop, e14, List.drop_left' h2]
  refine ⟨?_, ?_, ?_, ?_, ?_⟩
  · unfold ownOf
    rw [e1, List.take_left' h8, num_be 8 e he]
    simp [pieceText]
  · rw [e9, List.take_left' h4, num_be 4 i hi]
  · unfold sizeOf
    rw [e14, List.take_left' h2, num_be 2 _ (by omega)]
  · rw [e13]; rfl
  · rw [e16, List.take_left' rfl]
theorem scan_pieces (e : Nat) (he : e < 256 ^ 8) (rest : List (Option (List UInt8))) (n : Nat) : ∀ (p b : List UInt8) (i : Nat) (all : List (List UInt8)) (nx : Nat), p.length ≤ n → i + (pieces p).length < 256 ^ 4 → b.length + p.length ≤ 2000 →
    scan e (texts e i (pieces p) ++ rest) i b all nx = scan e rest (i + (pieces p).length) [] (all ++ [b ++ p]) (i + (pieces p).length) := by
  induction n with
  | zero =>
    intro p b i all nx hp hi hb
    obtain rfl : p = [] := List.eq_nil_of_length_eq_zero (by omega)
    rw [pieces, dif_pos (by simp)] at hi ⊢
    obtain ⟨h1, h2, h3, h4, h5⟩ := piece_parts e i false [] (zeros (256 - (pieceText e i false []).length)) he (by simp at hi; omega) (by simp)
    simp only [texts, List.cons_append, List.nil_append, scan]
    rw [h3, if_pos ⟨h1, h2, by simp, by simpa using hb⟩, if_pos (by rw [h4]; rfl), h5]
    rfl
  | succ n ih =>
    intro p b i all nx hp hi hb
    by_cases hs : p.length ≤ 240
    · rw [pieces, dif_pos hs] at hi ⊢
      obtain ⟨h1, h2, h3, h4, h5⟩ := piece_parts e i false p (zeros (256 - (pieceText e i false p).length)) he (by simp at hi; omega) hs
      simp only [texts, List.cons_append, List.nil_append, scan]
      rw [h3, if_pos ⟨h1, h2, hs, hb⟩, if_pos (by rw [h4]; rfl), h5]
      rfl
    · rw [pieces, dif_neg hs] at hi ⊢
      have hl : (p.take 240).length = 240 := by simp; omega
      obtain ⟨h1, h2, h3, h4, h5⟩ := piece_parts e i true (p.take 240) (zeros (256 - (pieceText e i true (p.take 240)).length)) he (by simp at hi; omega) (by omega)
      simp only [List.length_cons] at hi
      simp only [texts, List.cons_append, scan]
      rw [h3, if_pos ⟨h1, h2, by omega, by omega⟩, if_neg (by rw [h4]; decide), h5, ih (p.drop 240) _ (i + 1) all nx (by simp; omega) (by omega) (by simp; omega)]
      rw [List.append_assoc, List.take_append_drop, List.length_cons, show i + 1 + (pieces (p.drop 240)).length = i + ((pieces (p.drop 240)).length + 1) by omega]
theorem pieces_length (n : Nat) : ∀ p : List UInt8, p.length ≤ n → 1 ≤ p.length → (pieces p).length = chunks p.length := by
  induction n with
  | zero => intro p h1 h2; omega
  | succ n ih =>
    intro p h1 h2
    rw [pieces]
    by_cases hs : p.length ≤ 240
    · rw [dif_pos hs]; unfold chunks; simp; omega
    · rw [dif_neg hs, List.length_cons, ih (p.drop 240) (by simp; omega) (by simp; omega)]
      unfold chunks
      simp
      omega
/-- The pieces of all that a log has. -/
def flat (all : List (List UInt8)) : List (Bool × List UInt8) := all.flatMap pieces
theorem scan_all (e : Nat) (he : e < 256 ^ 8) (rest : List (Option (List UInt8))) : ∀ (all : List (List UInt8)) (i : Nat) (pre : List (List UInt8)), i + (flat all).length < 256 ^ 4 → (∀ p ∈ all, p.length ≤ 2000) →
    scan e (texts e i (flat all) ++ rest) i [] pre i = scan e rest (i + (flat all).length) [] (pre ++ all) (i + (flat all).length) := by
  intro all
  induction all with
  | nil => intro i pre _ _; simp [flat, texts]
  | cons p r ih =>
    intro i pre hi hp
    have hf : flat (p :: r) = pieces p ++ flat r := rfl
    rw [hf, List.length_append] at hi ⊢
    rw [texts_append, List.append_assoc, scan_pieces e he _ p.length p [] i pre i (Nat.le_refl _) (by omega) (by simpa using hp p (by simp)), List.nil_append, ih (i + (pieces p).length) (pre ++ [p]) (by omega) (fun q hq => hp q (by simp [hq]))]
    rw [List.append_assoc, Nat.add_assoc]
    rfl
theorem scan_stop (e : Nat) (l : List (Option (List UInt8))) (i : Nat) (b : List UInt8) (all : List (List UInt8)) (nx : Nat) (h : ∀ s, l[0]? = some (some s) → ownOf e s = false) : scan e l i b all nx = (all, nx) := by
  match l with
  | [] => rfl
  | none :: _ => rfl
  | some s :: r =>
    have := h s rfl
    simp [scan, this]
end Pl
end Go.Proofs.YtljmklohgpaopaaDoor

namespace Go.Proofs.YtljmklohgpaopaaDoor
open Go.RowKit

/-- A sector's cells. -/
def secCells (s : Pl.Sec) : List Value := [.string (tstr s.now), .string (tstr s.safe), .bool s.broken, .bool s.was, .bool s.fresh]
def secsCells (l : List Pl.Sec) : List Value := l.flatMap secCells
theorem secCells_length (s : Pl.Sec) : (secCells s).length = 5 := rfl
theorem secsCells_length (l : List Pl.Sec) : (secsCells l).length = l.length * 5 := by
  induction l with
  | nil => rfl
  | cons a r ih => simp only [secsCells, List.flatMap_cons, List.length_append] at ih ⊢; rw [ih]; simp [secCells]; omega
theorem secsCells_append (a b : List Pl.Sec) : secsCells (a ++ b) = secsCells a ++ secsCells b := by simp [secsCells]
theorem secsCells_cons (a : Pl.Sec) (b : List Pl.Sec) : secsCells (a :: b) = secCells a ++ secsCells b := by simp [secsCells]
theorem secsCells_split (l : List Pl.Sec) (i : Nat) (s : Pl.Sec) (hs : l[i]? = some s) : secsCells l = secsCells (l.take i) ++ (secCells s ++ secsCells (l.drop (i + 1))) := by
  have hi : i < l.length := (List.getElem?_eq_some_iff.1 hs).1
  have he : l[i] = s := (List.getElem?_eq_some_iff.1 hs).2
  conv => lhs; rw [← List.take_append_drop i l, secsCells_append, List.drop_eq_getElem_cons hi, secsCells_cons, he]
theorem secsCells_take_length (l : List Pl.Sec) (i : Nat) (hi : i < l.length) : (secsCells (l.take i)).length = i * 5 := by
  rw [secsCells_length, List.length_take, Nat.min_eq_left (by omega)]
theorem secsCells_get (l : List Pl.Sec) (i j : Nat) (s : Pl.Sec) (hs : l[i]? = some s) (hj : j < 5) : (secsCells l)[i * 5 + j]? = (secCells s)[j]? := by
  have hi : i < l.length := (List.getElem?_eq_some_iff.1 hs).1
  rw [secsCells_split l i s hs, List.getElem?_append_right (by rw [secsCells_take_length l i hi]; omega), secsCells_take_length l i hi, Nat.add_sub_cancel_left, List.getElem?_append_left (by rw [secCells_length]; exact hj)]
theorem fold_set (A C : List Value) (k : Nat) (hA : A.length = k) : ∀ (sets : List (Nat × Value)) (B : List Value), (∀ p ∈ sets, p.1 < B.length) →
    sets.foldl (fun xs p => xs.set (k + p.1) p.2) (A ++ (B ++ C)) = A ++ (sets.foldl (fun xs p => xs.set p.1 p.2) B ++ C)
  | [], _, _ => rfl
  | p :: r, B, h => by
    have h1 := h p (by simp)
    rw [List.foldl_cons, List.foldl_cons, List.set_append_right _ _ (by omega), hA, Nat.add_sub_cancel_left, List.set_append_left _ _ h1]
    exact fold_set A C k hA r (B.set p.1 p.2) (fun q hq => by rw [List.length_set]; exact h q (by simp [hq]))
/-- Some cells of a sector are laid anew. -/
theorem secsCells_sets (l : List Pl.Sec) (i : Nat) (s s' : Pl.Sec) (hs : l[i]? = some s) (sets : List (Nat × Value)) (hlt : ∀ p ∈ sets, p.1 < 5) (h : sets.foldl (fun xs p => xs.set p.1 p.2) (secCells s) = secCells s') :
    sets.foldl (fun xs p => xs.set (i * 5 + p.1) p.2) (secsCells l) = secsCells (l.set i s') := by
  have hi : i < l.length := (List.getElem?_eq_some_iff.1 hs).1
  have h' : (l.set i s')[i]? = some s' := by simp [hi]
  rw [secsCells_split l i s hs, secsCells_split (l.set i s') i s' h', fold_set _ _ _ (secsCells_take_length l i hi) sets _ (fun p hp => by rw [secCells_length]; exact hlt p hp), h]
  congr 2
  · rw [List.take_set_of_le (Nat.le_refl _)]
  · congr 1
    rw [List.drop_set_of_lt (by omega)]

/-- The disk at block g, its row v: these sectors, this life; so many reads. -/
structure DiskAt (w : World) (g : Nat) (v : Value) (d : Pl.Dk) (rd : Int) : Prop where
  most : d.secs.length ≤ 4096
  sized : ∀ s ∈ d.secs, s.now.length = 256 ∧ s.safe.length = 256
  life : -1 ≤ d.life ∧ d.life ≤ 9223372036854775807
  far : v.ownBlock ≠ some g
  own : w.ownsRow 0 92 5 v d.secs.length (secsCells d.secs)
  blk : ∃ wr sy, Blk w g 90 [v, .int .i64 d.life, .int .i64 rd, .int .i64 wr, .int .i64 sy]
/-- The disk's blocks. -/
def dF (g : Nat) (v : Value) (k : Nat) : Prop := k = g ∨ v.ownBlock = some k
theorem DiskAt.only {F : Nat → Prop} {w w' : World} {g : Nat} {v : Value} {d : Pl.Dk} {rd : Int} (h : DiskAt w g v d rd) (ho : Only F w w') (hF : ∀ k, dF g v k → ¬ F k) : DiskAt w' g v d rd := by
  obtain ⟨wr, sy, hb⟩ := h.blk
  exact ⟨h.most, h.sized, h.life, h.far, ho.own h.own (fun k hk => hF k (.inr hk)), wr, sy, ho.blk hb (hF g (.inl rfl))⟩
theorem DiskAt.below {w w' : World} {g : Nat} {v : Value} {d : Pl.Dk} {rd : Int} (h : DiskAt w g v d rd) (hb : Below w.heap.size w w') : DiskAt w' g v d rd := h.only (Only.of_below hb (fun _ => False)) (fun _ _ => id)
theorem DiskAt.lt {w : World} {g : Nat} {v : Value} {d : Pl.Dk} {rd : Int} (h : DiskAt w g v d rd) : ∀ k, dF g v k → k < w.heap.size := by
  obtain ⟨wr, sy, hb⟩ := h.blk
  rintro k (rfl | hk)
  · exact hb.lt
  · exact (h.own.lt k hk).2
theorem facts5 {w : World} {g : Nat} {t : TypeId} {a0 a1 a2 a3 a4 : Value} (h : Blk w g t [a0, a1, a2, a3, a4]) :
    w.cell? ⟨g, 0, none⟩ = some a0 ∧ w.cell? ⟨g, 1, none⟩ = some a1 ∧ w.cell? ⟨g, 2, none⟩ = some a2 ∧ w.cell? ⟨g, 3, none⟩ = some a3 ∧ w.cell? ⟨g, 4, none⟩ = some a4 ∧
    w.frozen? ⟨g, 0, none⟩ = false ∧ w.frozen? ⟨g, 1, none⟩ = false ∧ w.frozen? ⟨g, 2, none⟩ = false ∧ w.frozen? ⟨g, 3, none⟩ = false ∧ w.frozen? ⟨g, 4, none⟩ = false :=
  ⟨h.cell 0, h.cell 1, h.cell 2, h.cell 3, h.cell 4, h.frozen 0, h.frozen 1, h.frozen 2, h.frozen 3, h.frozen 4⟩
theorem own_sec {w : World} {b n cap : Nat} {l : List Pl.Sec} (ho : w.ownsRow 0 92 5 (.slice (some ⟨b, 0, none⟩) n cap) n (secsCells l)) (hn : l.length = n) {i : Nat} {s : Pl.Sec} (hs : l[i]? = some s) :
    w.cell? ⟨b, i * 5, none⟩ = some (.string (tstr s.now)) ∧ w.cell? ⟨b, i * 5 + 1, none⟩ = some (.string (tstr s.safe)) ∧ w.cell? ⟨b, i * 5 + 2, none⟩ = some (.bool s.broken) ∧
      w.cell? ⟨b, i * 5 + 3, none⟩ = some (.bool s.was) ∧ w.cell? ⟨b, i * 5 + 4, none⟩ = some (.bool s.fresh) ∧ (∀ j, w.frozen? ⟨b, j, none⟩ = false) := by
  have hi : i < l.length := (List.getElem?_eq_some_iff.1 hs).1
  have hc : ∀ j, j < 5 → w.cell? ⟨b, i * 5 + j, none⟩ = (secCells s)[j]? := fun j hj => (ho.cellAt (i * 5 + j) (by omega)).trans (secsCells_get _ _ _ _ hs hj)
  exact ⟨hc 0 (by omega), hc 1 (by omega), hc 2 (by omega), hc 3 (by omega), hc 4 (by omega), fun j => ho.frozenAt j⟩
/-- Where a disk has a sector: its row's block, the sector's cells. -/
theorem DiskAt.sec {w : World} {g : Nat} {v : Value} {d : Pl.Dk} {rd : Int} (h : DiskAt w g v d rd) {i : Nat} {s : Pl.Sec} (hs : d.secs[i]? = some s) :
    ∃ b cap, v = .slice (some ⟨b, 0, none⟩) d.secs.length cap ∧ b ≠ g ∧ w.cell? ⟨b, i * 5, none⟩ = some (.string (tstr s.now)) ∧ w.cell? ⟨b, i * 5 + 1, none⟩ = some (.string (tstr s.safe)) ∧ w.cell? ⟨b, i * 5 + 2, none⟩ = some (.bool s.broken) ∧
      w.cell? ⟨b, i * 5 + 3, none⟩ = some (.bool s.was) ∧ w.cell? ⟨b, i * 5 + 4, none⟩ = some (.bool s.fresh) ∧ (∀ j, w.frozen? ⟨b, j, none⟩ = false) := by
  have hi : i < d.secs.length := (List.getElem?_eq_some_iff.1 hs).1
  obtain ⟨b, cap, e0, _, _⟩ := own_addr h.own (by omega)
  have ho := h.own
  have hf := h.far
  rw [e0] at ho hf
  have hc : ∀ j, j < 5 → w.cell? ⟨b, i * 5 + j, none⟩ = (secCells s)[j]? := fun j hj => (ho.cellAt (i * 5 + j) (by omega)).trans (secsCells_get _ _ _ _ hs hj)
  refine ⟨b, cap, e0, fun e => hf (by rw [e]; rfl), hc 0 (by omega), hc 1 (by omega), hc 2 (by omega), hc 3 (by omega), hc 4 (by omega), fun j => ho.frozenAt j⟩
theorem DiskAt.ofHead {w w' : World} {g : Nat} {v : Value} {d : Pl.Dk} {rd : Int} (h : DiskAt w g v d rd) (ho : Only (· = g) w w') (life rd' wr sy : Int) (hl : -1 ≤ life ∧ life ≤ 9223372036854775807) (hb : Blk w' g 90 [v, .int .i64 life, .int .i64 rd', .int .i64 wr, .int .i64 sy]) :
    DiskAt w' g v ⟨d.secs, life⟩ rd' :=
  ⟨h.most, h.sized, hl, h.far, ho.own h.own (fun k hk e => h.far (by rw [hk, e])), wr, sy, hb⟩
theorem own_sets {base b n cap i : Nat} {e : TypeId} : ∀ (sets : List (Nat × Value)) {w : World} {xs : List Value}, w.ownsRow base e 5 (.slice (some ⟨b, 0, none⟩) n cap) n xs →
    (sets.foldl (fun W p => W.setCell ⟨b, i * 5 + p.1, none⟩ p.2) w).ownsRow base e 5 (.slice (some ⟨b, 0, none⟩) n cap) n (sets.foldl (fun xs p => xs.set (i * 5 + p.1) p.2) xs)
  | [], _, _, h => h
  | p :: r, _, _, h => own_sets r (h.stored (i * 5 + p.1) p.2).1
theorem only_sets {b i : Nat} {F : Nat → Prop} (hF : F b) : ∀ (sets : List (Nat × Value)) {a w : World}, Only F a w → Only F a (sets.foldl (fun W p => W.setCell ⟨b, i * 5 + p.1, none⟩ p.2) w)
  | [], _, _, h => h
  | p :: r, _, _, h => only_sets hF r (h.setCell (.inl hF) p.2)
/-- Some cells of a sector are laid anew. -/
theorem DiskAt.sets {w : World} {g b cap : Nat} {d : Pl.Dk} {rd : Int} (h : DiskAt w g (.slice (some ⟨b, 0, none⟩) d.secs.length cap) d rd) {i : Nat} {s : Pl.Sec} (hs : d.secs[i]? = some s) (s' : Pl.Sec) (hz : s'.now.length = 256 ∧ s'.safe.length = 256)
    (sets : List (Nat × Value)) (hlt : ∀ p ∈ sets, p.1 < 5) (he : sets.foldl (fun xs p => xs.set p.1 p.2) (secCells s) = secCells s') :
    DiskAt (sets.foldl (fun W p => W.setCell ⟨b, i * 5 + p.1, none⟩ p.2) w) g (.slice (some ⟨b, 0, none⟩) d.secs.length cap) ⟨d.secs.set i s', d.life⟩ rd ∧
    Only (· = b) w (sets.foldl (fun W p => W.setCell ⟨b, i * 5 + p.1, none⟩ p.2) w) := by
  have ho := only_sets (b := b) (i := i) (F := (· = b)) rfl sets (Only.refl _ w)
  have hbg : g ≠ b := fun e => h.far (by rw [e]; rfl)
  obtain ⟨wr, sy, hb⟩ := h.blk
  have hown := own_sets (i := i) sets h.own
  rw [secsCells_sets d.secs i s s' hs sets hlt he] at hown
  refine ⟨⟨by simpa using h.most, ?_, h.life, h.far, by simpa using hown, wr, sy, ho.blk hb hbg⟩, ho⟩
  intro x hx
  rcases List.mem_or_eq_of_mem_set hx with hx | rfl
  · exact h.sized x hx
  · exact hz
end Go.Proofs.YtljmklohgpaopaaDoor
