/- Plain facts on trees of sums: no program in sight. -/
import Derived.Test.YtljmklohgpaopaaDoorPlain
namespace Go.Proofs.YtljmklohgpaopaaDoor
namespace Pl

/-- The greatest power of two below a number of leaves (of one: one). -/
def half (n : Nat) : Nat := 2 ^ Nat.log2 (n - 1)
theorem half_pos (n : Nat) : 0 < half n := Nat.two_pow_pos _
theorem half_lt {n : Nat} (h : 2 ≤ n) : half n < n := by
  have := Nat.log2_self_le (n := n - 1) (by omega)
  unfold half; omega
theorem half_of {n j : Nat} (h1 : j = 0 ∨ 2 ^ j < n) (h2 : n ≤ 2 * 2 ^ j) (hn : 1 ≤ n) : 2 ^ j = half n := by
  unfold half
  congr 1
  rcases Nat.lt_or_ge 1 n with h | h
  · have hne : n - 1 ≠ 0 := by omega
    have hj : 2 ^ j ≤ n - 1 := by rcases h1 with rfl | h1 <;> simp_all <;> omega
    have hlt : n - 1 < 2 ^ (j + 1) := by rw [Nat.pow_succ]; omega
    exact ((Nat.log2_eq_iff hne).2 ⟨hj, hlt⟩).symm
  · obtain rfl : n = 1 := by omega
    rcases h1 with rfl | h1
    · simp
    · have := Nat.two_pow_pos j; omega

/-- The root of a tree, as a number. -/
def root (ls : List (List UInt8)) : Nat :=
  match ls with
  | [] => sumN []
  | [l] => sumN (0 :: l)
  | a :: b :: r => sumN (1 :: (be 4 (root ((a :: b :: r).take (half (r.length + 2)))) ++ be 4 (root ((a :: b :: r).drop (half (r.length + 2))))))
termination_by ls.length
decreasing_by
  all_goals
    have h1 := half_pos (r.length + 2)
    have h2 := half_lt (n := r.length + 2) (by omega)
    simp
    omega
theorem root_nil : root [] = sumN [] := by rw [root]
theorem root_one (l : List UInt8) : root [l] = sumN (0 :: l) := by rw [root]
theorem root_many (ls : List (List UInt8)) (h : 2 ≤ ls.length) : root ls = sumN (1 :: (be 4 (root (ls.take (half ls.length))) ++ be 4 (root (ls.drop (half ls.length))))) := by
  match ls, h with
  | a :: b :: r, _ => rw [root]; rfl
theorem root_lt (ls : List (List UInt8)) : root ls < 4294967291 := by
  match ls with
  | [] => rw [root_nil]; exact sumN_lt _
  | [l] => rw [root_one]; exact sumN_lt _
  | a :: b :: r => rw [root_many _ (by simp)]; exact sumN_lt _

/-- The way from a leaf to the root, the lowest first. -/
def path (ls : List (List UInt8)) (at_ : Nat) : List Nat :=
  match ls with
  | [] => []
  | [_] => []
  | a :: b :: r =>
    if at_ < half (r.length + 2) then path ((a :: b :: r).take (half (r.length + 2))) at_ ++ [root ((a :: b :: r).drop (half (r.length + 2)))]
    else path ((a :: b :: r).drop (half (r.length + 2))) (at_ - half (r.length + 2)) ++ [root ((a :: b :: r).take (half (r.length + 2)))]
termination_by ls.length
decreasing_by
  all_goals
    have h1 := half_pos (r.length + 2)
    have h2 := half_lt (n := r.length + 2) (by omega)
    simp
    omega
theorem path_one (l : List UInt8) (i : Nat) : path [l] i = [] := by rw [path]
theorem path_many (ls : List (List UInt8)) (i : Nat) (h : 2 ≤ ls.length) : path ls i =
    if i < half ls.length then path (ls.take (half ls.length)) i ++ [root (ls.drop (half ls.length))]
    else path (ls.drop (half ls.length)) (i - half ls.length) ++ [root (ls.take (half ls.length))] := by
  match ls, h with
  | a :: b :: r, _ => rw [path]; rfl

/-- How many roots a way has. -/
def depth (at_ many : Nat) : Nat :=
  if h : many ≤ 1 then 0 else if at_ < half many then depth at_ (half many) + 1 else depth (at_ - half many) (many - half many) + 1
termination_by many
decreasing_by
  · exact half_lt (by omega)
  · have := half_pos many; omega
theorem depth_one (i m : Nat) (h : m ≤ 1) : depth i m = 0 := by rw [depth]; simp [h]
theorem depth_lo (i m : Nat) (h : 2 ≤ m) (hi : i < half m) : depth i m = depth i (half m) + 1 := by rw [depth]; simp [show ¬ m ≤ 1 by omega, hi]
theorem depth_hi (i m : Nat) (h : 2 ≤ m) (hi : ¬ i < half m) : depth i m = depth (i - half m) (m - half m) + 1 := by rw [depth]; simp [show ¬ m ≤ 1 by omega, hi]

theorem path_length (ls : List (List UInt8)) (i : Nat) (h : i < ls.length) : (path ls i).length = depth i ls.length := by
  by_cases h1 : ls.length ≤ 1
  · match ls, h1 with
    | [], _ => simp at h
    | [l], _ => rw [path_one, depth_one _ _ (by simp)]; rfl
  · have hl := half_lt (n := ls.length) (by omega)
    have hp := half_pos ls.length
    rw [path_many _ _ (by omega)]
    split
    · rename_i hi
      rw [List.length_append, path_length (ls.take (half ls.length)) i (by simp; omega), depth_lo _ _ (by omega) hi]
      simp [Nat.min_eq_left (Nat.le_of_lt hl)]
    · rename_i hi
      rw [List.length_append, path_length (ls.drop (half ls.length)) (i - half ls.length) (by simp; omega), depth_hi _ _ (by omega) hi]
      simp
termination_by ls.length
decreasing_by
  all_goals (simp; omega)

/-- The root to which a way leads. The way's last hash is the highest. -/
def climb (leaf : List UInt8) (at_ many : Nat) (p : List Nat) : Nat :=
  if h : many ≤ 1 then sumN (0 :: leaf)
  else if at_ < half many then sumN (1 :: (be 4 (climb leaf at_ (half many) p.dropLast) ++ be 4 (p.getLastD 0)))
  else sumN (1 :: (be 4 (p.getLastD 0) ++ be 4 (climb leaf (at_ - half many) (many - half many) p.dropLast)))
termination_by many
decreasing_by
  · exact half_lt (by omega)
  · have := half_pos many; omega
theorem climb_one (leaf : List UInt8) (i m : Nat) (p : List Nat) (h : m ≤ 1) : climb leaf i m p = sumN (0 :: leaf) := by rw [climb]; simp [h]
theorem climb_lo (leaf : List UInt8) (i m : Nat) (p : List Nat) (h : 2 ≤ m) (hi : i < half m) : climb leaf i m p = sumN (1 :: (be 4 (climb leaf i (half m) p.dropLast) ++ be 4 (p.getLastD 0))) := by
  rw [climb]; simp [show ¬ m ≤ 1 by omega, hi]
theorem climb_hi (leaf : List UInt8) (i m : Nat) (p : List Nat) (h : 2 ≤ m) (hi : ¬ i < half m) : climb leaf i m p = sumN (1 :: (be 4 (p.getLastD 0) ++ be 4 (climb leaf (i - half m) (m - half m) p.dropLast))) := by
  rw [climb]; simp [show ¬ m ≤ 1 by omega, hi]
theorem climb_lt (leaf : List UInt8) (i m : Nat) (p : List Nat) : climb leaf i m p < 4294967291 := by
  by_cases h : m ≤ 1
  · rw [climb_one _ _ _ _ h]; exact sumN_lt _
  · by_cases hi : i < half m
    · rw [climb_lo _ _ _ _ (by omega) hi]; exact sumN_lt _
    · rw [climb_hi _ _ _ _ (by omega) hi]; exact sumN_lt _

/-- From each leaf its path leads to the root. -/
theorem climb_path (ls : List (List UInt8)) (i n : Nat) (leaf : List UInt8) (hn : n = ls.length) (h : ls[i]? = some leaf) : climb leaf i n (path ls i) = root ls := by
  have hlt : i < ls.length := by
    rcases Nat.lt_or_ge i ls.length with h' | h'
    · exact h'
    · rw [List.getElem?_eq_none h'] at h; cases h
  by_cases h1 : ls.length ≤ 1
  · match ls, h1 with
    | [], _ => simp at hlt
    | [l], _ =>
      rw [climb_one _ _ _ _ (by simp [hn]), root_one]
      obtain rfl : i = 0 := by simp at hlt; omega
      simp at h
      rw [h]
  · have hl := half_lt (n := ls.length) (by omega)
    have hp := half_pos ls.length
    subst hn
    rw [path_many _ _ (by omega), root_many ls (by omega)]
    by_cases hi : i < half ls.length
    · rw [if_pos hi, climb_lo _ _ _ _ (by omega) hi]
      have ih := climb_path (ls.take (half ls.length)) i (half ls.length) leaf (by simp; omega) (by rw [List.getElem?_take, if_pos hi, h])
      rw [List.dropLast_concat, ih]
      simp
    · rw [if_neg hi, climb_hi _ _ _ _ (by omega) hi]
      have ih := climb_path (ls.drop (half ls.length)) (i - half ls.length) (ls.length - half ls.length) leaf (by simp) (by rw [List.getElem?_drop, show half ls.length + (i - half ls.length) = i by omega, h])
      rw [List.dropLast_concat, ih]
      simp
termination_by ls.length
decreasing_by
  all_goals (simp; omega)

/-- Two texts with one sum as leaves lead to one root. -/
theorem climb_same (a b : List UInt8) (h : sumN (0 :: a) = sumN (0 :: b)) (i m : Nat) (p : List Nat) : climb a i m p = climb b i m p := by
  by_cases h1 : m ≤ 1
  · rw [climb_one _ _ _ _ h1, climb_one _ _ _ _ h1, h]
  · by_cases hi : i < half m
    · rw [climb_lo _ _ _ _ (by omega) hi, climb_lo _ _ _ _ (by omega) hi, climb_same a b h i (half m) p.dropLast]
    · rw [climb_hi _ _ _ _ (by omega) hi, climb_hi _ _ _ _ (by omega) hi, climb_same a b h (i - half m) (m - half m) p.dropLast]
termination_by m
decreasing_by
  · exact half_lt (by omega)
  · have := half_pos m; omega
/-- Hashes laid one behind the other. -/
def ptext (ps : List Nat) : List UInt8 := ps.flatMap (be 4)
theorem ptext_append (a b : List Nat) : ptext (a ++ b) = ptext a ++ ptext b := by simp [ptext]
theorem ptext_one (n : Nat) : ptext [n] = be 4 n := by simp [ptext]
theorem ptext_length (ps : List Nat) : (ptext ps).length = 4 * ps.length := by
  induction ps with
  | nil => rfl
  | cons a r ih => rw [show a :: r = [a] ++ r from rfl, ptext_append, List.length_append, ih, ptext_one, be_length, List.length_append]; simp; omega
theorem depth_lt (i m : Nat) (h : i < m) : depth i m < m := by
  by_cases h1 : m ≤ 1
  · rw [depth_one _ _ h1]; omega
  · have hl := half_lt (n := m) (by omega)
    have hp := half_pos m
    by_cases hi : i < half m
    · rw [depth_lo _ _ (by omega) hi]
      have := depth_lt i (half m) hi
      omega
    · rw [depth_hi _ _ (by omega) hi]
      have := depth_lt (i - half m) (m - half m) (by omega)
      omega
termination_by m
theorem path_len (ls : List (List UInt8)) (i : Nat) (h : i < ls.length) : (path ls i).length < ls.length := by
  rw [path_length ls i h]; exact depth_lt _ _ h
theorem path_lt (ls : List (List UInt8)) (i : Nat) : ∀ x ∈ path ls i, x < 4294967291 := by
  by_cases h1 : ls.length ≤ 1
  · match ls, h1 with
    | [], _ => simp [path]
    | [l], _ => simp [path_one]
  · have hl := half_lt (n := ls.length) (by omega)
    have hp := half_pos ls.length
    rw [path_many _ _ (by omega)]
    intro x hx
    split at hx
    · rcases List.mem_append.1 hx with hx | hx
      · exact path_lt _ _ x hx
      · simp at hx; subst hx; exact root_lt _
    · rcases List.mem_append.1 hx with hx | hx
      · exact path_lt _ _ x hx
      · simp at hx; subst hx; exact root_lt _
termination_by ls.length
decreasing_by
  all_goals (simp; omega)
/-- What bytes tell, the highest first. -/
def num (l : List UInt8) : Nat := l.foldl (fun v c => 256 * v + c.toNat) 0
theorem num_four (a b c d : UInt8) : num [a, b, c, d] = ((a.toNat * 256 + b.toNat) * 256 + c.toNat) * 256 + d.toNat := by simp [num]; omega
theorem be_num4 (a b c d : UInt8) : be 4 (num [a, b, c, d]) = [a, b, c, d] := by
  have ha := a.toNat_lt
  have hb := b.toNat_lt
  have hc := c.toNat_lt
  have hd := d.toNat_lt
  rw [num_four, show ∀ n, be 4 n = hashText n from fun _ => rfl, hashText_eq]
  have e : ∀ (x : UInt8) (n : Nat), n % 256 = x.toNat → UInt8.ofNat n = x := by
    intro x n h
    apply UInt8.toNat_inj.1
    simpa using h
  rw [e a _ (by omega), e b _ (by omega), e c _ (by omega), e d _ (by omega)]
/-- The hash that is made of a text: its first bytes, noughts behind. -/
def hashOf (l : List UInt8) : Nat := num ((l ++ [0, 0, 0, 0]).take 4)
theorem take4 (l : List UInt8) : ∃ a b c d, (l ++ [0, 0, 0, 0]).take 4 = [a, b, c, d] := by
  match l with
  | [] => exact ⟨_, _, _, _, rfl⟩
  | [_] => exact ⟨_, _, _, _, rfl⟩
  | [_, _] => exact ⟨_, _, _, _, rfl⟩
  | [_, _, _] => exact ⟨_, _, _, _, rfl⟩
  | a :: b :: c :: d :: r => exact ⟨a, b, c, d, rfl⟩
theorem be_hashOf (l : List UInt8) : be 4 (hashOf l) = (l ++ [0, 0, 0, 0]).take 4 := by
  obtain ⟨a, b, c, d, h⟩ := take4 l
  rw [hashOf, h, be_num4]
theorem hashOf_lt (l : List UInt8) : hashOf l < 4294967296 := by
  obtain ⟨a, b, c, d, h⟩ := take4 l
  have ha := a.toNat_lt
  have hb := b.toNat_lt
  have hc := c.toNat_lt
  have hd := d.toNat_lt
  rw [hashOf, h, num_four]
  omega
/-- The numbers of a text's groups of four bytes. -/
def groups (l : List UInt8) : List Nat :=
  match l with
  | a :: b :: c :: d :: r => num [a, b, c, d] :: groups r
  | _ => []
theorem groups_short (l : List UInt8) (h : l.length < 4) : groups l = [] := by
  match l, h with
  | [], _ => simp [groups]
  | [_], _ => simp [groups]
  | [_, _], _ => simp [groups]
  | [_, _, _], _ => simp [groups]
theorem groups_long (l : List UInt8) (h : 4 ≤ l.length) : groups l = hashOf l :: groups (l.drop 4) := by
  match l, h with
  | a :: b :: c :: d :: r, _ => rfl
theorem groups_length (l : List UInt8) : (groups l).length = l.length / 4 := by
  match l with
  | [] => simp [groups, ptext]
  | [_] => simp [groups, ptext]
  | [_, _] => simp [groups, ptext]
  | [_, _, _] => simp [groups, ptext]
  | a :: b :: c :: d :: r =>
    rw [groups_long _ (by simp), List.length_cons, groups_length]
    simp
    omega
theorem groups_lt (l : List UInt8) : ∀ x ∈ groups l, x < 4294967296 := by
  match l with
  | [] => simp [groups]
  | [_] => simp [groups]
  | [_, _] => simp [groups]
  | [_, _, _] => simp [groups]
  | a :: b :: c :: d :: r =>
    rw [groups_long _ (by simp)]
    intro x hx
    rcases List.mem_cons.1 hx with h | h
    · rw [h]; exact hashOf_lt _
    · exact groups_lt _ x h
theorem groups_text (l : List UInt8) : ptext (groups l) = l.take (l.length / 4 * 4) := by
  match l with
  | [] => simp [groups, ptext]
  | [_] => simp [groups, ptext]
  | [_, _] => simp [groups, ptext]
  | [_, _, _] => simp [groups, ptext]
  | a :: b :: c :: d :: r =>
    have := groups_text r
    rw [groups_long _ (by simp), show ∀ (x : Nat) (y : List Nat), x :: y = [x] ++ y from fun _ _ => rfl, ptext_append, ptext_one, be_hashOf]
    rw [show List.drop 4 (a :: b :: c :: d :: r) = r from rfl, this]
    rw [show (a :: b :: c :: d :: r).length / 4 * 4 = r.length / 4 * 4 + 4 by simp; omega]
    rfl
end Pl
end Go.Proofs.YtljmklohgpaopaaDoor
