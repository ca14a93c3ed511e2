/- The walks of sums.path and Path. -/
import Derived.Test.YtdiainkokgpldaaDoorTreeP
namespace Go.Proofs.YtdiainkokgpldaaDoor
open Go.RowKit

/-- Hashes as the cells of a row. -/
def hcs (ps : List Nat) : List Value := ps.flatMap hc
theorem hcs_len (ps : List Nat) : (hcs ps).length = ps.length * 4 := by
  induction ps with
  | nil => rfl
  | cons a r ih => simp only [hcs, List.flatMap_cons, List.length_append] at ih ⊢; rw [ih]; simp [hc]; omega
theorem hcs_append (a b : List Nat) : hcs (a ++ b) = hcs a ++ hcs b := by simp [hcs]
theorem hcs_one (n : Nat) : hcs [n] = hc n := by simp [hcs]
theorem hcs_oneCell (ps : List Nat) : ∀ v ∈ hcs ps, v.oneCell' = true := by
  intro v hv
  obtain ⟨n, _, h⟩ := List.mem_flatMap.1 hv
  exact hc_one n v h

theorem own_below {w w' : World} {base : Nat} {e : TypeId} {size n : Nat} {v : Value} {xs : List Value} (h : w.ownsRow base e size v n xs) (hb : Below w.heap.size w w') : w'.ownsRow base e size v n xs := by
  refine h.kept (only_of_below hb none) ?_
  cases v.ownBlock
  · exact .inl rfl
  · exact .inr (by simp)

theorem Tryd.infoHash : (Tryd.prog.info? 89).map (fun i => (i.zero, i.size, i.bytes)) = some (some (hashVal 0), 4, 4) := by kernel_rfl

theorem hash_room {n m : Nat} (h : n + m ≤ 17592186044416) : ∀ old, old < n + m → Builtin.nextslicecap (n + m) old * 4 ≤ 281474976710656 := by
  intro old ho
  have := nextslicecap_le54 ho
  omega

theorem size_alloc_le {n : Nat} {w : World} (h : n ≤ w.heap.size) (o : Obj) : n ≤ (w.alloc o).heap.size := Nat.le_trans h (by simp)

theorem path_single (A : Option Addr) (cap : Nat) (i : Int) (w : World) :
    Calls Tryd.prog 75 #[.slice A 1 cap, .int .i64 i] w fun e w' => e = .returned (.slice none 0 0) ∧ Below w.heap.size w w' := by
  go_enter Tryd.func75, Tryd.ntmps75
  go_wp2_with fail
  go_ret
  exact ⟨rfl, Below.refl _ _⟩

set_option maxHeartbeats 4000000 in
set_option maxRecDepth 100000 in
theorem path_step (ls : List (List UInt8)) (b off cap i : Nat) (w : World) (hi : i < ls.length) (hn : 2 ≤ ls.length) (hb : BB w (some ⟨b, off, none⟩) ls) (hcc : ls.length ≤ cap) (hm : ls.length ≤ 17592186044416)
    (ih : ∀ (ls' : List (List UInt8)) (A : Option Addr) (cap i : Nat) (w : World), i < ls'.length → ls'.length < ls.length → BB w A ls' → ls'.length ≤ cap →
      Calls Tryd.prog 75 #[.slice A ls'.length cap, .int .i64 i] w fun e w' => ∃ v, e = .returned v ∧ w'.ownsRow w.heap.size 89 4 v (Pl.path ls' i).length (hcs (Pl.path ls' i)) ∧ Below w.heap.size w w') :
    Calls Tryd.prog 75 #[.slice (some ⟨b, off, none⟩) ls.length cap, .int .i64 i] w fun e w' => ∃ v, e = .returned v ∧ w'.ownsRow w.heap.size 89 4 v (Pl.path ls i).length (hcs (Pl.path ls i)) ∧ Below w.heap.size w w' := by
  rw [Pl.path_many ls i hn]
  obtain ⟨i0, hi0, hz0, hz1, hz2⟩ := info_parts Tryd.infoHash
  obtain ⟨k, hk⟩ : ∃ k, Pl.half ls.length = k := ⟨_, rfl⟩
  have hk1 := Pl.half_pos ls.length
  have hk2 := Pl.half_lt hn
  rw [hk] at hk1 hk2 ⊢
  have hRT : ∀ W, BB W (some ⟨b, off, none⟩) (ls.take k) → Calls Tryd.prog 40 #[.slice (some ⟨b, off, none⟩) k cap] W fun e w' => e = .returned (hashVal (Pl.root (ls.take k))) ∧ Below W.heap.size W w' := by
    intro W hW
    have := root_any _ (ls.take k) (some ⟨b, off, none⟩) cap W (Nat.le_refl _) hW (by simp; omega) (by simp; omega)
    rwa [List.length_take, Nat.min_eq_left (Nat.le_of_lt hk2)] at this
  have hRD : ∀ W, BB W (some ⟨b, off + k, none⟩) (ls.drop k) → Calls Tryd.prog 40 #[.slice (some ⟨b, off + k, none⟩) (ls.length - k) (cap - k)] W fun e w' => e = .returned (hashVal (Pl.root (ls.drop k))) ∧ Below W.heap.size W w' := by
    intro W hW
    have := root_any _ (ls.drop k) (some ⟨b, off + k, none⟩) (cap - k) W (Nat.le_refl _) hW (by rw [List.length_drop]; omega) (by rw [List.length_drop]; omega)
    rwa [List.length_drop] at this
  have ht := Lib.hid (hb.take k)
  have hd := Lib.hid (hb.drop k)
  have HRT := Lib.hid hRT
  have HRD := Lib.hid hRD
  have HK := Lib.hid hk
  have hx0 : (0 : Int) ≤ (k : Int) := by omega
  have hx1 : (k : Int) ≤ (cap : Int) := by omega
  have hx2 : (k : Int) ≤ (ls.length : Int) := by omega
  have hx3 : ¬ cap = k := by omega
  have q1 : ((ls.length : Int) == 1) = false := beq_eq_false_iff_ne.2 (by omega)
  clear hRT hRD hk
  by_cases hik : i < k
  · rw [if_pos hik]
    have hT : ∀ W, BB W (some ⟨b, off, none⟩) (ls.take k) → Calls Tryd.prog 75 #[.slice (some ⟨b, off, none⟩) k cap, .int .i64 i] W fun e w' => ∃ v, e = .returned v ∧ w'.ownsRow W.heap.size 89 4 v (Pl.path (ls.take k) i).length (hcs (Pl.path (ls.take k) i)) ∧ Below W.heap.size W w' := by
      intro W hW
      have := ih (ls.take k) (some ⟨b, off, none⟩) cap i W (by simp; omega) (by simp; omega) hW (by simp; omega)
      rwa [List.length_take, Nat.min_eq_left (Nat.le_of_lt hk2)] at this
    have HT := Lib.hid hT
    have hpl := Pl.path_len (ls.take k) i (by rw [List.length_take]; omega)
    rw [List.length_take] at hpl
    obtain ⟨ps, hps⟩ : ∃ ps, Pl.path (ls.take k) i = ps := ⟨_, rfl⟩
    obtain ⟨x, hx⟩ : ∃ x, Pl.root (ls.drop k) = x := ⟨_, rfl⟩
    rw [hps] at HT hpl ⊢
    rw [hx] at HRD ⊢
    have hpl2 : ps.length + 1 ≤ 17592186044416 := by omega
    have hroom := Lib.hid (hash_room hpl2)
    have h63 := Lib.hid (show ps.length + 1 ≤ maxLen by simp only [maxLen]; omega)
    clear hT ih hb hps hx
    go_enter Tryd.func75, Tryd.ntmps75
    go_wp2_with fail
    refine (half_any ls.length _ (by omega) (by omega)).mono ?_
    rintro e w' ⟨rfl, rfl⟩
    rw [HK.out]
    go_wp2_with fail
    go_region_held3 (fun _ => True) (trivial) (first
      | (go_at_call 75; (with_reducible refine (HT.out _ ?_).mono ?_); exact ht.out; rintro e w1 ⟨v1, rfl, hown1', hb1'⟩; have hb1 := undrew hb1'; have hown1 : w1.ownsRow w.heap.size 89 4 v1 ps.length (hcs ps) := hown1'; clear hown1' hb1')
      | (go_at_call 40; (with_reducible refine (HRD.out _ ?_).mono ?_); exact hd.out.keep hb1; rintro e w2 ⟨rfl, hb2⟩
         have hown2 := Lib.hid (((own_below hown1 hb2).alloc (.cells (hc x).toArray 89)))
         have hsrc2 := Lib.hid (Src.of_blk (Blk.new w2 89 (hc x)))
         have hbel2 := hb1.trans (hb2.mono hb1.size)
         have hsz2 := hbel2.size
         have hbase2 := size_alloc_le hsz2 (.cells (hc x).toArray 89)
         unfold hashVal)
      | (refine step_append_src _ rfl (.tmp 19) (.tmp 24) 91 rfl w.heap.size 89 i0 (hashVal 0) 4 4 Tryd.underlying91 hi0 hz0 hz1 hz2 rfl (by decide) v1 ps.length (hcs ps) rfl hown2.out (some ⟨w2.heap.size, 0, none⟩) 1 1 (hc x) rfl rfl hsrc2.out (hc_one x) h63.out hroom.out hbase2 ?_
         intro v3 w3 hown3 hgrow3 hat3)
      | fail)
    go_wp2_with fail
    go_ret
    refine ⟨v3, rfl, by rw [List.length_append, hcs_append, hcs_one]; exact hown3, ?_⟩
    exact (hbel2.alloc hsz2 _).grown hgrow3 (by simp; omega) (fun g hg => (hown2.out.lt g hg).1)
  · rw [if_neg hik]
    have hT : ∀ W, BB W (some ⟨b, off + k, none⟩) (ls.drop k) → Calls Tryd.prog 75 #[.slice (some ⟨b, off + k, none⟩) (ls.length - k) (cap - k), .int .i64 ((i : Int) - k)] W fun e w' => ∃ v, e = .returned v ∧ w'.ownsRow W.heap.size 89 4 v (Pl.path (ls.drop k) (i - k)).length (hcs (Pl.path (ls.drop k) (i - k))) ∧ Below W.heap.size W w' := by
      intro W hW
      have := ih (ls.drop k) (some ⟨b, off + k, none⟩) (cap - k) (i - k) W (by rw [List.length_drop]; omega) (by rw [List.length_drop]; omega) hW (by rw [List.length_drop]; omega)
      rwa [List.length_drop, Int.ofNat_sub (by omega)] at this
    have HT := Lib.hid hT
    have hpl := Pl.path_len (ls.drop k) (i - k) (by rw [List.length_drop]; omega)
    rw [List.length_drop] at hpl
    have w0 : IntKind.i64.wrap ((i : Int) - k) = (i : Int) - k := IntWalk.i64_in _ (by omega)
    obtain ⟨ps, hps⟩ : ∃ ps, Pl.path (ls.drop k) (i - k) = ps := ⟨_, rfl⟩
    obtain ⟨x, hx⟩ : ∃ x, Pl.root (ls.take k) = x := ⟨_, rfl⟩
    rw [hps] at HT hpl ⊢
    rw [hx] at HRT ⊢
    have hpl2 : ps.length + 1 ≤ 17592186044416 := by omega
    have hroom := Lib.hid (hash_room hpl2)
    have h63 := Lib.hid (show ps.length + 1 ≤ maxLen by simp only [maxLen]; omega)
    clear hT ih hb hps hx
    go_enter Tryd.func75, Tryd.ntmps75
    go_wp2_with fail
    refine (half_any ls.length _ (by omega) (by omega)).mono ?_
    rintro e w' ⟨rfl, rfl⟩
    rw [HK.out]
    go_wp2_with fail
    go_region_held3 (fun _ => True) (trivial) (first
      | (go_at_call 75; (with_reducible refine (HT.out _ ?_).mono ?_); exact hd.out; rintro e w1 ⟨v1, rfl, hown1', hb1'⟩; have hb1 := undrew hb1'; have hown1 : w1.ownsRow w.heap.size 89 4 v1 ps.length (hcs ps) := hown1'; clear hown1' hb1')
      | (go_at_call 40; (with_reducible refine (HRT.out _ ?_).mono ?_); exact ht.out.keep hb1; rintro e w2 ⟨rfl, hb2⟩
         have hown2 := Lib.hid (((own_below hown1 hb2).alloc (.cells (hc x).toArray 89)))
         have hsrc2 := Lib.hid (Src.of_blk (Blk.new w2 89 (hc x)))
         have hbel2 := hb1.trans (hb2.mono hb1.size)
         have hsz2 := hbel2.size
         have hbase2 := size_alloc_le hsz2 (.cells (hc x).toArray 89)
         unfold hashVal)
      | (refine step_append_src _ rfl (.tmp 32) (.tmp 37) 91 rfl w.heap.size 89 i0 (hashVal 0) 4 4 Tryd.underlying91 hi0 hz0 hz1 hz2 rfl (by decide) v1 ps.length (hcs ps) rfl hown2.out (some ⟨w2.heap.size, 0, none⟩) 1 1 (hc x) rfl rfl hsrc2.out (hc_one x) h63.out hroom.out hbase2 ?_
         intro v3 w3 hown3 hgrow3 hat3)
      | fail)
    go_wp2_with fail
    go_ret
    refine ⟨v3, rfl, by rw [List.length_append, hcs_append, hcs_one]; exact hown3, ?_⟩
    exact (hbel2.alloc hsz2 _).grown hgrow3 (by simp; omega) (fun g hg => (hown2.out.lt g hg).1)

theorem path_any (n : Nat) : ∀ (ls : List (List UInt8)) (A : Option Addr) (cap i : Nat) (w : World), ls.length ≤ n → i < ls.length → BB w A ls → ls.length ≤ cap → ls.length ≤ 17592186044416 →
    Calls Tryd.prog 75 #[.slice A ls.length cap, .int .i64 i] w fun e w' => ∃ v, e = .returned v ∧ w'.ownsRow w.heap.size 89 4 v (Pl.path ls i).length (hcs (Pl.path ls i)) ∧ Below w.heap.size w w' := by
  induction n with
  | zero => intro ls A cap i w hn hi; omega
  | succ n ih =>
    intro ls A cap i w hn hi hb hc hm
    match ls, hn, hi, hb, hc, hm with
    | [l], _, _, _, _, _ =>
      refine (path_single A cap i w).mono ?_
      rintro e w1 ⟨rfl, hb1⟩
      refine ⟨_, rfl, ?_, hb1⟩
      rw [Pl.path_one]
      exact World.ownsRow_nil _ _ _ _
    | x :: y :: r, hn, hi, hb, hc, hm =>
      obtain ⟨b, off, rfl⟩ := hb.addr (by simp)
      exact path_step (x :: y :: r) b off cap i w hi (by simp) hb hc hm (fun ls' A cap i w h1 h2 h3 h4 => ih ls' A cap i w (by omega) h1 h3 h4 (by omega))

theorem pathE_bad (A : Option Addr) (n cap : Nat) (i : Int) (w : World) (h : i < 0 ∨ n ≤ i) :
    Calls Tryd.prog 41 #[.slice A n cap, .int .i64 i] w fun e w' => e = .returned (.tuple #[.slice none 0 0, .iface 22 (.int .i64 9)]) ∧ w = w' := by
  by_cases h1 : i < 0
  · go_enter Tryd.func41, Tryd.ntmps41
    go_wp2_with fail
    go_ret2
    exact ⟨rfl, rfl⟩
  · have h2 : (n : Int) ≤ i := by omega
    go_enter Tryd.func41, Tryd.ntmps41
    go_wp2_with fail
    go_ret2
    exact ⟨rfl, rfl⟩

theorem pathE_good (ls : List (List UInt8)) (A : Option Addr) (cap i : Nat) (w : World) (hi : i < ls.length) (hb : BB w A ls) (hc : ls.length ≤ cap) (hm : ls.length ≤ 17592186044416) :
    Calls Tryd.prog 41 #[.slice A ls.length cap, .int .i64 i] w fun e w' => ∃ v, e = .returned (.tuple #[v, .nilIface]) ∧ w'.ownsRow w.heap.size 89 4 v (Pl.path ls i).length (hcs (Pl.path ls i)) ∧ Below w.heap.size w w' := by
  have HP := path_any _ ls A cap i w (Nat.le_refl _) hi hb hc hm
  have h1 : ¬ (i : Int) < 0 := by omega
  have h2 : ¬ (ls.length : Int) ≤ i := by omega
  go_enter Tryd.func41, Tryd.ntmps41
  go_wp2_with fail
  refine HP.mono ?_
  rintro e w1 ⟨v, rfl, hown, hb1⟩
  go_wp2_with fail
  go_ret2
  exact ⟨v, rfl, hown, hb1⟩
end Go.Proofs.YtdiainkokgpldaaDoor
