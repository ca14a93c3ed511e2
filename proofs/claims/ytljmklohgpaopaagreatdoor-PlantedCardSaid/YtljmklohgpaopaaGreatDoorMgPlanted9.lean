/- A tree's pages: an inner one is read. -/
import Derived.Test.YtljmklohgpaopaaGreatDoorMgPlanted8
set_option linter.unusedVariables false
set_option linter.unusedSimpArgs false

namespace Go.Proofs.YtljmklohgpaopaaGreatDoor
open Go.RowKit

theorem Rw.kinds {e : TypeId} {s : Nat} {w : World} {base : Nat} {v : Value} {n : Nat} {cs : List Value} (h : Rw e s w base v n cs) : Kinds (fun k => v.ownBlock = some k) w [e] := fun _ hk => ⟨e, by simp, own_typ h hk⟩
theorem one_kinds {w : World} {g : Nat} {t : TypeId} {cs : List Value} (h : Blk w g t cs) : Kinds (· = g) w [t] := fun _ hk => ⟨t, by simp, hk ▸ h.typ⟩
theorem Rw.only_ {F : Nat → Prop} {w w' : World} {ts : List TypeId} {e : TypeId} {s base : Nat} {v : Value} {n : Nat} {cs : List Value} (h : Rw e s w base v n cs) (ho : Only F w w') (hF : Kinds F w ts) (ht : e ∉ ts) : Rw e s w' base v n cs := ho.own_ hF h ht
/-- Refs that lead to sectors alone. -/
structure Aways (w : World) (lo : Nat) (rs ats : List Nat) : Prop where
  at_ : ∀ (i r a : Nat), rs[i]? = some r → ats[i]? = some a → Blk w r 168 [.int .i64 (a : Nat), .nilIface]
  up : rs.Pairwise (· < ·)
  lo : ∀ r ∈ rs, lo ≤ r ∧ r < w.heap.size
theorem Aways.only {F : Nat → Prop} {w w' : World} {ts : List TypeId} {lo : Nat} {rs ats : List Nat} (h : Aways w lo rs ats) (ho : Only F w w') (hF : Kinds F w ts) (ht : 168 ∉ ts) : Aways w' lo rs ats :=
  ⟨fun i r a h1 h2 => ho.blk_ hF (h.at_ i r a h1 h2) ht, h.up, fun r hr => ⟨(h.lo r hr).1, Nat.lt_of_lt_of_le (h.lo r hr).2 ho.size⟩⟩
theorem Aways.below {w w' : World} {lo : Nat} {rs ats : List Nat} (h : Aways w lo rs ats) (hb : Below w.heap.size w w') : Aways w' lo rs ats := h.only (Only.of_below hb (fun _ => False)) (kinds_none w) (by simp)
theorem Aways.nil (w : World) (lo : Nat) (ats : List Nat) : Aways w lo [] ats := ⟨fun i r a h _ => by simp at h, List.Pairwise.nil, fun r hr => by cases hr⟩
theorem Aways.snoc {w w' : World} {lo k a : Nat} {rs ats : List Nat} (h : Aways w lo rs ats) (hk : rs.length = k) (ha : ats[k]? = some a) (hw : w' = w.alloc (.cells #[.int .i64 (a : Nat), .nilIface] 168)) (hlo : lo ≤ w.heap.size) : Aways w' lo (rs ++ [w.heap.size]) ats := by
  have hb : Below w.heap.size w w' := by rw [hw]; exact (Below.refl _ _).alloc (Nat.le_refl _) _
  have hsz : w'.heap.size = w.heap.size + 1 := by rw [hw]; simp
  refine ⟨fun i r a' h1 h2 => ?_, List.pairwise_append.2 ⟨h.up, List.pairwise_singleton _ _, fun x hx y hy => ?_⟩, fun r hr => ?_⟩
  · rcases Nat.lt_or_ge i rs.length with hi | hi
    · rw [List.getElem?_append_left hi] at h1
      exact (h.below hb).at_ i r a' h1 h2
    · rw [List.getElem?_append_right hi] at h1
      have h3 : i = k := by
        rcases Nat.lt_or_ge (i - rs.length) 1 with h4 | h4
        · omega
        · rw [List.getElem?_eq_none (by simpa using h4)] at h1; cases h1
      subst h3
      rw [← hk, Nat.sub_self] at h1
      obtain rfl : w.heap.size = r := by simpa using h1
      rw [ha] at h2
      obtain rfl : a = a' := by simpa using h2
      rw [hw]
      exact Blk.new w 168 _
  · rw [List.mem_singleton.1 hy]; exact (h.lo x hx).2
  · rcases List.mem_append.1 hr with hr | hr
    · exact ⟨(h.lo r hr).1, by have := (h.lo r hr).2; omega⟩
    · rw [List.mem_singleton.1 hr]; exact ⟨hlo, by omega⟩
/-- What is left to read of keys and kids. -/
def restK (ks : List Pl.Key) (ats : List Nat) (tail : List UInt8) (k : Nat) : List UInt8 := ((ks.zip (ats.drop 1)).drop k).flatMap Pl.encKid ++ tail
theorem restK_at {ks : List Pl.Key} {ats : List Nat} {k a : Nat} {x : Pl.Key} (tail : List UInt8) (h : ks[k]? = some x) (ha : ats[k + 1]? = some a) : restK ks ats tail k = UInt8.ofNat x.length :: (x ++ (Pl.be 4 a ++ restK ks ats tail (k + 1))) := by
  unfold restK
  have hz : (ks.zip (ats.drop 1))[k]? = some (x, a) := by
    rw [List.getElem?_zip_eq_some]
    exact ⟨h, by rw [List.getElem?_drop, Nat.add_comm]; exact ha⟩
  have hd : (ks.zip (ats.drop 1)).drop k = (x, a) :: (ks.zip (ats.drop 1)).drop (k + 1) := by
    obtain ⟨hlt, e⟩ := List.getElem?_eq_some_iff.1 hz
    rw [List.drop_eq_getElem_cons hlt, e]
  rw [hd, List.flatMap_cons]
  simp [Pl.encKid, Pl.short]
theorem src_str (w : World) (x : Pl.Key) : Src (w.alloc (.cells #[.string (tstr x)] 9)) (some ⟨w.heap.size, 0, none⟩) (ksCells [x]) := Src.of_blk (Blk.new w 9 _)
theorem src_ref (w : World) (r : Nat) : Src (w.alloc (.cells #[.pointer (some ⟨r, 0, none⟩)] 156)) (some ⟨w.heap.size, 0, none⟩) (refsCells [r]) := Src.of_blk (Blk.new w 156 _)

/-- What parse makes of an inner page's text. -/
def ParsedI (ks : List Pl.Key) (ats : List Nat) (w : World) (e : Ending) (w' : World) : Prop :=
  ∃ b rs, e = .returned (innerV b) ∧ InnerAt w' b ks rs ∧ rs.length = ats.length ∧ Aways w' w.heap.size rs ats ∧ w.heap.size ≤ b ∧ Below w.heap.size w w'
set_option maxRecDepth 100000 in
set_option maxHeartbeats 4000000 in
theorem parse_inner (ks : List Pl.Key) (ats : List Nat) (tail l : List UInt8) (w : World) (hl : l = Pl.innerText ks ats ++ tail) (hsz : l.length ≤ 1000) (hp : ∀ k ∈ ks, k.length < 256) (hk : ks.length < 256) (hal : ats.length = ks.length + 1) (hat : ∀ a ∈ ats, a ≤ 4096) :
    Calls Tryz.prog 135 #[.string (tstr l)] w (ParsedI ks ats w) := by
  obtain ⟨n, hn⟩ : ∃ n, ks.length = n := ⟨_, rfl⟩
  rw [hn] at hk hal
  obtain ⟨a0, ha0⟩ : ∃ a, ats[0]? = some a := ⟨_, List.getElem?_eq_getElem (by omega)⟩
  have hhd : ats.headD 0 = a0 := by
    cases ats with
    | nil => simp at ha0
    | cons z zs => simpa using ha0
  have ha0b := hat a0 (List.mem_of_getElem? ha0)
  have hl1 : l = 105 :: (UInt8.ofNat n :: (Pl.be 4 a0 ++ restK ks ats tail 0)) := by rw [hl]; unfold Pl.innerText restK; rw [hn, hhd]; simp
  obtain ⟨w1, hw1⟩ : ∃ w1, w.alloc (.cells #[.string (tstr l), .bool false] 286) = w1 := ⟨_, rfl⟩
  have hb1 : Below w.heap.size w w1 := by rw [← hw1]; exact (Below.refl _ _).alloc (Nat.le_refl _) _
  have hsz1 : w1.heap.size = w.heap.size + 1 := by rw [← hw1]; simp
  obtain ⟨gR, hgR⟩ : ∃ g, w.heap.size = g := ⟨_, rfl⟩
  have R1 : RdT w1 gR l false := ⟨by omega, by rw [← hw1, ← hgR]; exact Blk.new w 286 _⟩
  have HT := Lib.hid (rtake_any gR 1 l false w1 R1 (by rw [hl1]; simp))
  have e1 : tstr (l.take 1) = ⟨#[105]⟩ := by rw [hl1]; rfl
  have e2 : l.drop 1 = UInt8.ofNat n :: (Pl.be 4 a0 ++ restK ks ats tail 0) := by rw [hl1]; rfl
  rw [e1, e2] at HT
  have HN := Lib.hid hn
  have HP := Lib.hid hp
  have HAL := Lib.hid hal
  have HAT := Lib.hid hat
  have HA0 := Lib.hid ha0
  have HB1 := Lib.hid hb1
  have HLE : Hid ((restK ks ats tail 0).length ≤ 1000) := by
    have := hsz
    rw [hl1, List.length_cons, List.length_cons, List.length_append] at this
    rw [Hid]
    omega
  have HGR := Lib.hid hgR
  have HS1 := Lib.hid hsz1
  clear hl hl1 hsz hp hb1 R1 e1 e2 hn hsz1 hal hat ha0 hhd
  go_enter Tryz.func135, Tryz.ntmps135
  go_wp2_with fail
  refine HT.out.mono ?_
  rintro e w2 ⟨rfl, r2, o2⟩
  obtain ⟨gI, hgI⟩ : ∃ g, w2.heap.size = g := ⟨_, rfl⟩
  obtain ⟨w3, hw3⟩ : ∃ w3, w2.alloc (.cells #[.slice none 0 0, .slice none 0 0] 185) = w3 := ⟨_, rfl⟩
  have hb3 : Below w2.heap.size w2 w3 := by rw [← hw3]; exact (Below.refl _ _).alloc (Nat.le_refl _) _
  have BL3 : Blk w3 gI 185 [.slice none 0 0, .slice none 0 0] := by rw [← hw3, ← hgI]; exact Blk.new w2 185 _
  have HB2 := Lib.hid (o2.toBelow (B := w.heap.size) HB1.out.size (fun k hk e => by have := HGR.out; omega))
  have HB3 := Lib.hid (HB1.out.trans (HB2.out.trans (hb3.mono (Nat.le_trans HB1.out.size HB2.out.size))))
  have R3 := Lib.hid (r2.below hb3)
  have HT2 := rnum_any gR 1 _ false w3 R3.out (by simp) (by omega)
  rw [num_of_one _ hk, List.drop_succ_cons, List.drop_zero] at HT2
  have HT2 := Lib.hid HT2
  have BL3 := Lib.hid BL3
  have HGI := Lib.hid hgI
  clear r2 o2 hb3 HT
  go_wp2_with fail
  refine HT2.out.mono ?_
  rintro e w4 ⟨rfl, r4, o4⟩
  have BL4 := Lib.hid (o4.blk_ (one_kinds R3.out.2) BL3.out (by decide))
  have HB4 := Lib.hid (HB3.out.trans (o4.toBelow (B := w.heap.size) HB3.out.size (fun k hk e => by have := HGR.out; omega)))
  have R4 := Lib.hid r4
  have l0 := BL4.out.cell 0
  have l1 := BL4.out.cell 1
  have lf := BL4.out.frozen 1
  simp only [List.getElem?_cons_succ, List.getElem?_cons_zero] at l0 l1
  have L1 : Hid (w4.drew.cell? ⟨gI, 1, none⟩ = some (.slice none 0 0)) := l1
  have T3 := rnum_any gR 4 (Pl.be 4 a0 ++ restK ks ats tail 0) false w4.drew R4.out (by simp [Pl.be_length]) (by omega)
  rw [num_of_take a0 _ rfl (by omega), drop_be] at T3
  have T3 := Lib.hid T3
  clear r4 o4 HT2 hw1 hw3
  go_wp2_with fail
  refine wp_region_L 10 (fun W => W.cell? ⟨gI, 1, none⟩ = some (.slice none 0 0)) (fun _ => True) (by kernel_rfl) L1.out trivial (fun hTill => ?_)
  refine wpL_take' (i := 0) (oi := _) (v := ?_) rfl (by kernel_rfl) (by kernel_rfl) (by kernel_rfl) (by kernel_rfl) (fun _ _ _ h => h) (.inl ⟨by rfl, ?_⟩) (by assumption) ?_
  rotate_left
  · intro W hSw
    (try dsimp only at hSw)
    go_simp
    (try rfl)
  (try simp only [Act.put, List.getElem_toArray, List.getElem_cons_succ, List.getElem_cons_zero, List.setIfInBounds_toArray, List.set_cons_zero, List.set_cons_succ])
  refine wpL_take' (i := 1) (oi := _) (v := ?_) rfl (by kernel_rfl) (by kernel_rfl) (by kernel_rfl) (by kernel_rfl) (fun _ _ _ h => h) (.inl ⟨by rfl, ?_⟩) (by assumption) ?_
  rotate_left
  · intro W hSw
    (try dsimp only at hSw)
    go_simp
    (try rfl)
  (try simp only [Act.put, List.getElem_toArray, List.getElem_cons_succ, List.getElem_cons_zero, List.setIfInBounds_toArray, List.set_cons_zero, List.set_cons_succ])
  refine wpL_take' (i := 2) (oi := _) (v := ?_) rfl (by kernel_rfl) (by kernel_rfl) (by kernel_rfl) (by kernel_rfl) (fun _ _ _ h => h) (.inl ⟨by rfl, ?_⟩) (by assumption) ?_
  rotate_left
  · intro W hSw
    (try dsimp only at hSw)
    go_simp
    (try rfl)
  (try simp only [Act.put, List.getElem_toArray, List.getElem_cons_succ, List.getElem_cons_zero, List.setIfInBounds_toArray, List.set_cons_zero, List.set_cons_succ])
  refine wpL_take' (i := 3) (oi := _) (v := ?_) rfl (by kernel_rfl) (by kernel_rfl) (by kernel_rfl) (by kernel_rfl) (fun _ _ _ h => h) (.inl ⟨by rfl, ?_⟩) (by assumption) ?_
  rotate_left
  · intro W hSw
    (try dsimp only at hSw)
    go_simp
    (try rfl)
  (try simp only [Act.put, List.getElem_toArray, List.getElem_cons_succ, List.getElem_cons_zero, List.setIfInBounds_toArray, List.set_cons_zero, List.set_cons_succ])
  refine wpL_take (i := 4) (oi := _) (v := ?_) rfl (by kernel_rfl) (by kernel_rfl) (by kernel_rfl) (by kernel_rfl) (fun _ _ _ h => h) (.inl ⟨by rfl, ?_⟩) (by assumption) ?_
  rotate_left
  · intro W hSw
    (try dsimp only at hSw)
    go_simp
    (try rfl)
  (try simp only [Act.put, List.getElem_toArray, List.getElem_cons_succ, List.getElem_cons_zero, List.setIfInBounds_toArray, List.set_cons_zero, List.set_cons_succ])
  refine wpL_take' (i := 5) (oi := _) (v := ?_) rfl (by kernel_rfl) (by kernel_rfl) (by kernel_rfl) (by kernel_rfl) (fun _ _ _ h => h) (.inl ⟨by rfl, ?_⟩) (by assumption) ?_
  rotate_left
  · intro W hSw
    (try dsimp only at hSw)
    go_simp
    (try rfl)
  (try simp only [Act.put, List.getElem_toArray, List.getElem_cons_succ, List.getElem_cons_zero, List.setIfInBounds_toArray, List.set_cons_zero, List.set_cons_succ])
  refine wpL_ready (rs := [6]) (by kernel_rfl) (by simp) ?_
  refine AllL.cons (o := _) rfl (fun K hK => ?_) AllL.nil
  go_simp
  refine T3.out.mono ?_
  rintro e w5 ⟨rfl, r5, o5⟩
  have o5 : Only (· = gR) w4 w5 := o5.undrew
  have BL5 := Lib.hid (o5.blk_ (one_kinds R4.out.2) BL4.out (by decide))
  have HB5 := Lib.hid (HB4.out.trans (o5.toBelow (B := w.heap.size) HB4.out.size (fun k hk e => by have := HGR.out; omega)))
  have R5 := Lib.hid r5
  clear r5 o5
  go_wp2_with fail
  refine hK.out _ _ ⟨fun _ => BL5.out.cell 1, trivial⟩ (fun hTill => ?_)
  clear hK K
  (try simp only [Act.put, List.getElem_toArray, List.getElem_cons_succ, List.getElem_cons_zero, List.setIfInBounds_toArray, List.set_cons_zero, List.set_cons_succ])
  refine wpL_take' (i := 7) (oi := _) (v := ?_) rfl (by kernel_rfl) (by kernel_rfl) (by kernel_rfl) (by kernel_rfl) (fun _ _ _ h => h) (.inl ⟨by rfl, ?_⟩) (by assumption) ?_
  rotate_left
  · intro W hSw
    (try dsimp only at hSw)
    go_simp
    (try rfl)
  (try simp only [Act.put, List.getElem_toArray, List.getElem_cons_succ, List.getElem_cons_zero, List.setIfInBounds_toArray, List.set_cons_zero, List.set_cons_succ])
  refine wpL_ready (rs := [8]) (by kernel_rfl) (by simp) ?_
  refine AllL.cons (o := _) rfl (fun K hK => ?_) AllL.nil
  go_simp
  obtain ⟨w6, hw6⟩ : ∃ w6, w5.alloc (.cells #[.int .i64 (a0 : Nat), .nilIface] 168) = w6 := ⟨_, rfl⟩
  have B6 : Hid (Below w5.heap.size w5 w6) := by rw [Hid, ← hw6]; exact (Below.refl _ _).alloc (Nat.le_refl _) _
  have BL6 := Lib.hid (BL5.out.below B6.out BL5.out.lt)
  have R6 := Lib.hid (R5.out.below B6.out)
  have HB6 := Lib.hid (HB5.out.trans (B6.out.mono HB5.out.size))
  have A6 := Lib.hid ((Aways.nil w5 w.heap.size ats).snoc (k := 0) (a := a0) rfl HA0.out hw6.symm HB5.out.size)
  obtain ⟨r0, hr0⟩ : ∃ r, w5.heap.size = r := ⟨_, rfl⟩
  rw [hw6, hr0]
  rw [hr0] at A6
  simp only [List.nil_append] at A6
  refine hK.out _ _ ⟨fun _ => BL6.out.cell 1, trivial⟩ (fun hTill => ?_)
  clear hK K
  (try simp only [Act.put, List.getElem_toArray, List.getElem_cons_succ, List.getElem_cons_zero, List.setIfInBounds_toArray, List.set_cons_zero, List.set_cons_succ])
  refine wpL_ready (rs := [9]) (by kernel_rfl) (by simp) ?_
  refine AllL.cons (o := _) rfl (fun K hK => ?_) AllL.nil
  go_simp
  have S7 := Lib.hid (src_ref w6 r0)
  obtain ⟨w7, hw7⟩ : ∃ w7, w6.alloc (.cells #[.pointer (some ⟨r0, 0, none⟩)] 156) = w7 := ⟨_, rfl⟩
  have B7 : Hid (Below w6.heap.size w6 w7) := by rw [Hid, ← hw7]; exact (Below.refl _ _).alloc (Nat.le_refl _) _
  have BL7 := Lib.hid (BL6.out.below B7.out BL6.out.lt)
  have R7 := Lib.hid (R6.out.below B7.out)
  have HB7 := Lib.hid (HB6.out.trans (B7.out.mono HB6.out.size))
  have A7 := Lib.hid (A6.out.below B7.out)
  obtain ⟨g7, hg7⟩ : ∃ r, w6.heap.size = r := ⟨_, rfl⟩
  rw [hw7, hg7] at S7
  rw [hw7, hg7]
  refine hK.out _ _ ⟨fun _ => BL7.out.cell 1, trivial⟩ (fun hTill => ?_)
  clear hK K
  (try simp only [Act.put, List.getElem_toArray, List.getElem_cons_succ, List.getElem_cons_zero, List.setIfInBounds_toArray, List.set_cons_zero, List.set_cons_succ])
  refine wpL_ready (rs := [10]) (by kernel_rfl) (by simp) ?_
  refine AllL.cons (o := _) rfl (fun K hK => ?_) AllL.nil
  refine step_rw Tryz.eltRef rfl (.tmp 67) (.tmp 72) rfl rfl (Rw.nil w7 w.heap.size) (some ⟨g7, 0, none⟩) 1 1 (refsCells [r0]) rfl rfl S7.out (refsCells_one _) (by omega) HB7.out.size ?_
  intro v8 w8 o8 m8
  have K8 : Kinds (fun k => (Value.slice none 0 0).ownBlock = some k) w7 [] := fun _ h => by cases h
  have BL8 := Lib.hid (m8.only.blk_ K8 BL7.out (by simp))
  have R8 : Hid (RdT w8 gR (restK ks ats tail 0) false) := ⟨R7.out.1, m8.only.blk_ K8 R7.out.2 (by simp)⟩
  have A8 := Lib.hid (A7.out.only m8.only K8 (by simp))
  have HB8 := Lib.hid (HB7.out.trans ((m8.belowR (Rw.nil (e := 156) (s := 1) w7 w.heap.size) HB7.out.size).mono (Nat.le_refl _)))
  have W8 : Hid (Rw 156 1 w8 w.heap.size v8 1 (refsCells [r0])) := by have := o8; simpa [Hid] using this
  clear o8 m8 K8
  obtain ⟨A8', cap8, hv8, _⟩ := W8.out.tsrc
  subst hv8
  refine hK.out _ _ ⟨fun _ => BL8.out.cell 1, trivial⟩ (fun hTill => ?_)
  clear hK K
  (try simp only [Act.put, List.getElem_toArray, List.getElem_cons_succ, List.getElem_cons_zero, List.setIfInBounds_toArray, List.set_cons_zero, List.set_cons_succ])
  refine wpL_take' (i := 11) (oi := _) (v := ?_) rfl (by kernel_rfl) (by kernel_rfl) (by kernel_rfl) (by kernel_rfl) (fun _ _ _ h => h) (.inl ⟨by rfl, ?_⟩) (by assumption) ?_
  rotate_left
  · intro W hSw
    (try dsimp only at hSw)
    go_simp
    (try rfl)
  (try simp only [Act.put, List.getElem_toArray, List.getElem_cons_succ, List.getElem_cons_zero, List.setIfInBounds_toArray, List.set_cons_zero, List.set_cons_succ])
  refine wpL_take' (i := 12) (oi := _) (v := ?_) rfl (by kernel_rfl) (by kernel_rfl) (by kernel_rfl) (by kernel_rfl) (fun _ _ _ h => h) (.inl ⟨by rfl, ?_⟩) (by assumption) ?_
  rotate_left
  · intro W hSw
    (try dsimp only at hSw)
    go_simp
    (try rfl)
  (try simp only [Act.put, List.getElem_toArray, List.getElem_cons_succ, List.getElem_cons_zero, List.setIfInBounds_toArray, List.set_cons_zero, List.set_cons_succ])
  refine wpL_ready (rs := [13]) (by kernel_rfl) (by simp) ?_
  refine AllL.cons (o := _) rfl (fun K hK => ?_) AllL.nil
  have lf8 := BL8.out.frozen 1
  have l8 := BL8.out.cell 1
  simp only [List.getElem?_cons_succ, List.getElem?_cons_zero] at l8
  go_simp
  obtain ⟨w9, hw9⟩ : ∃ w9, w8.setCell ⟨gI, 1, none⟩ (.slice A8' 1 cap8) = w9 := ⟨_, rfl⟩
  have O9 : Hid (Only (· = gI) w8 w9) := by rw [Hid, ← hw9]; exact (Only.refl (· = gI) w8).setCell (p := ⟨gI, 1, none⟩) (.inl rfl) _
  have BL9 : Hid (Blk w9 gI 185 [.slice none 0 0, .slice A8' 1 cap8]) := by rw [Hid, ← hw9]; exact BL8.out.set_ 1 _
  have R9 : Hid (RdT w9 gR (restK ks ats tail 0) false) := ⟨R8.out.1, O9.out.blk_ (one_kinds BL8.out) R8.out.2 (by decide)⟩
  have W9 := Lib.hid (W8.out.only_ O9.out (one_kinds BL8.out) (by decide))
  have A9 := Lib.hid (A8.out.only O9.out (one_kinds BL8.out) (by decide))
  have HB9 : Hid (Below w.heap.size w w9) := HB8.out.trans (O9.out.toBelow (B := w.heap.size) HB8.out.size (fun j hj e => by have := HGI.out; have := HB2.out.size; have := HB1.out.size; omega))
  rw [hw9]
  refine hK.out _ _ ⟨fun h => Bool.noConfusion ((show _ = true by kernel_rfl).symm.trans h), trivial⟩ (fun hTill => ?_)
  clear hK K
  (try simp only [Act.put, List.getElem_toArray, List.getElem_cons_succ, List.getElem_cons_zero, List.setIfInBounds_toArray, List.set_cons_zero, List.set_cons_succ])
  refine wpL_done (by kernel_rfl) ?_ _
  clear hTill
  clear l0 l1 lf l8 lf8 hw9 hw6 hw7 hr0 hg7
  go_wp2_with fail
  go_loopw [8] (fun i wr => ∃ k : Nat, k ≤ n ∧ i = .int .i64 ((n : Int) - k) ∧ Hid (RdT wr gR (restK ks ats tail k) false) ∧ Hid (Below w.heap.size w wr) ∧
      ∃ Ak ck Ar cr rs, Hid (Blk wr gI 185 [.slice Ak k ck, .slice Ar (k + 1) cr]) ∧ Hid (Rw 9 1 wr w.heap.size (.slice Ak k ck) k (ksCells (ks.take k))) ∧
        Hid (Rw 156 1 wr w.heap.size (.slice Ar (k + 1) cr) (k + 1) (refsCells rs)) ∧ Hid (rs.length = k + 1) ∧ Hid (Aways wr w.heap.size rs ats)) (fun i _ => (intOf i).toNat)
  case atStart => exact ⟨0, Nat.zero_le _, by simp, R9, HB9, none, 0, _, _, [r0], BL9, Rw.nil _ _, W9, rfl, A9⟩
  case round =>
    obtain ⟨k, hkk, rfl, HR, HM, Ak, ck, Ar, cr, rs, HL, HK, HRR, HRL, HA⟩ := hrel
    by_cases hkn : k < n
    · have q1 : (0 : Int) < (n : Int) - k := by omega
      have q2 := decide_eq_true q1
      obtain ⟨x, hx⟩ : ∃ p, ks[k]? = some p := ⟨_, List.getElem?_eq_getElem (by rw [HN.out]; exact hkn)⟩
      obtain ⟨a, ha⟩ : ∃ p, ats[k + 1]? = some p := ⟨_, List.getElem?_eq_getElem (by rw [HAL.out]; omega)⟩
      have hxb := HP.out x (List.mem_of_getElem? hx)
      have hab := HAT.out a (List.mem_of_getElem? ha)
      have hrest := restK_at tail hx ha
      have HXK := Lib.hid hx
      have HAK := Lib.hid ha
      obtain ⟨kn, hkn'⟩ : ∃ m, x.length = m := ⟨_, rfl⟩
      rw [hkn'] at hxb hrest
      have KN := Lib.hid hkn'
      obtain ⟨nx, hnx⟩ : ∃ nx, restK ks ats tail (k + 1) = nx := ⟨_, rfl⟩
      rw [hnx] at hrest
      have HNX := Lib.hid hnx
      rw [hrest] at HR
      have r1 := HR.out.2.cell 1
      have i0 := HL.out.cell 0
      have i1 := HL.out.cell 1
      have f0 := HL.out.frozen 0
      simp only [List.getElem?_cons_succ, List.getElem?_cons_zero] at r1 i0 i1
      have I0 : Hid (wr.drew.cell? ⟨gI, 0, none⟩ = some (.slice Ak k ck)) := i0
      have T1 := rnum_any gR 1 _ false wr.drew HR.out (by simp) (by omega)
      rw [num_of_one _ hxb] at T1
      have T1 := Lib.hid T1
      clear hx ha hrest hkn' hnx
      go_wp2_with fail
      refine wp_region_L 10 (fun W => W.cell? ⟨gI, 0, none⟩ = some (.slice Ak k ck)) (fun _ => True) (by kernel_rfl) I0.out trivial (fun hTill => ?_)
      refine wpL_take' (i := 0) (oi := _) (v := ?_) rfl (by kernel_rfl) (by kernel_rfl) (by kernel_rfl) (by kernel_rfl) (fun _ _ _ h => h) (.inl ⟨by rfl, ?_⟩) (by assumption) ?_
      rotate_left
      · intro W hSw
        (try dsimp only at hSw)
        go_simp
        (try rfl)
      (try simp only [Act.put, List.getElem_toArray, List.getElem_cons_succ, List.getElem_cons_zero, List.setIfInBounds_toArray, List.set_cons_zero, List.set_cons_succ])
      refine wpL_take' (i := 1) (oi := _) (v := ?_) rfl (by kernel_rfl) (by kernel_rfl) (by kernel_rfl) (by kernel_rfl) (fun _ _ _ h => h) (.inl ⟨by rfl, ?_⟩) (by assumption) ?_
      rotate_left
      · intro W hSw
        (try dsimp only at hSw)
        go_simp
        (try rfl)
      (try simp only [Act.put, List.getElem_toArray, List.getElem_cons_succ, List.getElem_cons_zero, List.setIfInBounds_toArray, List.set_cons_zero, List.set_cons_succ])
      refine wpL_take' (i := 2) (oi := _) (v := ?_) rfl (by kernel_rfl) (by kernel_rfl) (by kernel_rfl) (by kernel_rfl) (fun _ _ _ h => h) (.inl ⟨by rfl, ?_⟩) (by assumption) ?_
      rotate_left
      · intro W hSw
        (try dsimp only at hSw)
        go_simp
        (try rfl)
      (try simp only [Act.put, List.getElem_toArray, List.getElem_cons_succ, List.getElem_cons_zero, List.setIfInBounds_toArray, List.set_cons_zero, List.set_cons_succ])
      refine wpL_take' (i := 3) (oi := _) (v := ?_) rfl (by kernel_rfl) (by kernel_rfl) (by kernel_rfl) (by kernel_rfl) (fun _ _ _ h => h) (.inl ⟨by rfl, ?_⟩) (by assumption) ?_
      rotate_left
      · intro W hSw
        (try dsimp only at hSw)
        go_simp
        (try rfl)
      (try simp only [Act.put, List.getElem_toArray, List.getElem_cons_succ, List.getElem_cons_zero, List.setIfInBounds_toArray, List.set_cons_zero, List.set_cons_succ])
      refine wpL_take (i := 4) (oi := _) (v := ?_) rfl (by kernel_rfl) (by kernel_rfl) (by kernel_rfl) (by kernel_rfl) (fun _ _ _ h => h) (.inl ⟨by rfl, ?_⟩) (by assumption) ?_
      rotate_left
      · intro W hSw
        (try dsimp only at hSw)
        go_simp
        (try rfl)
      (try simp only [Act.put, List.getElem_toArray, List.getElem_cons_succ, List.getElem_cons_zero, List.setIfInBounds_toArray, List.set_cons_zero, List.set_cons_succ])
      refine wpL_take' (i := 5) (oi := _) (v := ?_) rfl (by kernel_rfl) (by kernel_rfl) (by kernel_rfl) (by kernel_rfl) (fun _ _ _ h => h) (.inl ⟨by rfl, ?_⟩) (by assumption) ?_
      rotate_left
      · intro W hSw
        (try dsimp only at hSw)
        go_simp
        (try rfl)
      (try simp only [Act.put, List.getElem_toArray, List.getElem_cons_succ, List.getElem_cons_zero, List.setIfInBounds_toArray, List.set_cons_zero, List.set_cons_succ])
      refine wpL_take' (i := 6) (oi := _) (v := ?_) rfl (by kernel_rfl) (by kernel_rfl) (by kernel_rfl) (by kernel_rfl) (fun _ _ _ h => h) (.inl ⟨by rfl, ?_⟩) (by assumption) ?_
      rotate_left
      · intro W hSw
        (try dsimp only at hSw)
        go_simp
        (try rfl)
      (try simp only [Act.put, List.getElem_toArray, List.getElem_cons_succ, List.getElem_cons_zero, List.setIfInBounds_toArray, List.set_cons_zero, List.set_cons_succ])
      refine wpL_ready (rs := [7]) (by kernel_rfl) (by simp) ?_
      refine AllL.cons (o := _) rfl (fun K hK => ?_) AllL.nil
      go_simp
      refine T1.out.mono ?_
      rintro e z1 ⟨rfl, y1, o1⟩
      have o1 : Only (· = gR) wr z1 := o1.undrew
      have T2 := rtake_any gR kn _ false z1 y1 (by rw [List.drop_succ_cons, List.drop_zero, List.length_append, KN.out]; omega)
      rw [List.drop_succ_cons, List.drop_zero, List.take_left' KN.out, List.drop_left' KN.out] at T2
      have T2 := Lib.hid T2
      have O1 := Lib.hid o1
      have KR := Lib.hid (one_kinds HR.out.2)
      have Z1 := Lib.hid (O1.out.blk_ KR.out HL.out (by decide))
      clear y1 o1
      go_wp2_with fail
      refine hK.out _ _ ⟨fun _ => Z1.out.cell 0, trivial⟩ (fun hTill => ?_)
      clear hK K
      (try simp only [Act.put, List.getElem_toArray, List.getElem_cons_succ, List.getElem_cons_zero, List.setIfInBounds_toArray, List.set_cons_zero, List.set_cons_succ])
      refine wpL_ready (rs := [8]) (by kernel_rfl) (by simp) ?_
      refine AllL.cons (o := _) rfl (fun K hK => ?_) AllL.nil
      go_simp
      refine T2.out.mono ?_
      rintro e z2 ⟨rfl, y2, o2⟩
      have O2 := Lib.hid (O1.out.trans' o2)
      have Z2 := Lib.hid (O2.out.blk_ KR.out HL.out (by decide))
      have Y2 := Lib.hid y2
      have K2 := Lib.hid (HK.out.only_ O2.out KR.out (by decide))
      have R2 := Lib.hid (HRR.out.only_ O2.out KR.out (by decide))
      have A2 := Lib.hid (HA.out.only O2.out KR.out (by decide))
      have M2 : Hid (Below w.heap.size w z2) := HM.out.trans (O2.out.toBelow (B := w.heap.size) HM.out.size (fun j hj e => by have := HGR.out; omega))
      clear y2 o2
      go_wp2_with fail
      refine hK.out _ _ ⟨fun _ => Z2.out.cell 0, trivial⟩ (fun hTill => ?_)
      clear hK K
      (try simp only [Act.put, List.getElem_toArray, List.getElem_cons_succ, List.getElem_cons_zero, List.setIfInBounds_toArray, List.set_cons_zero, List.set_cons_succ])
      refine wpL_ready (rs := [9]) (by kernel_rfl) (by simp) ?_
      refine AllL.cons (o := _) rfl (fun K hK => ?_) AllL.nil
      go_simp
      have S3 := Lib.hid (src_str z2 x)
      obtain ⟨z3, hz3⟩ : ∃ z3, z2.alloc (.cells #[.string (tstr x)] 9) = z3 := ⟨_, rfl⟩
      have B3 : Hid (Below z2.heap.size z2 z3) := by rw [Hid, ← hz3]; exact (Below.refl _ _).alloc (Nat.le_refl _) _
      have Z3 := Lib.hid (Z2.out.below B3.out Z2.out.lt)
      have Y3 := Lib.hid (Y2.out.below B3.out)
      have K3 := Lib.hid (K2.out.below B3.out)
      have R3' := Lib.hid (R2.out.below B3.out)
      have A3 := Lib.hid (A2.out.below B3.out)
      have M3 : Hid (Below w.heap.size w z3) := M2.out.trans (B3.out.mono M2.out.size)
      obtain ⟨g3, hg3⟩ : ∃ r, z2.heap.size = r := ⟨_, rfl⟩
      rw [hz3, hg3] at S3
      rw [hz3, hg3]
      refine hK.out _ _ ⟨fun _ => Z3.out.cell 0, trivial⟩ (fun hTill => ?_)
      clear hK K
      (try simp only [Act.put, List.getElem_toArray, List.getElem_cons_succ, List.getElem_cons_zero, List.setIfInBounds_toArray, List.set_cons_zero, List.set_cons_succ])
      refine wpL_ready (rs := [10]) (by kernel_rfl) (by simp) ?_
      refine AllL.cons (o := _) rfl (fun K hK => ?_) AllL.nil
      refine step_rw Tryz.eltString rfl (.tmp 91) (.tmp 96) rfl rfl K3.out (some ⟨g3, 0, none⟩) 1 1 (ksCells [x]) rfl rfl S3.out (ksCells_one _) (by omega) M3.out.size ?_
      intro v4 z4 o4 m4
      have Z4 := Lib.hid (m4.only.blk_ K3.out.kinds Z3.out (by decide))
      have Y4 : Hid (RdT z4 gR (Pl.be 4 a ++ nx) false) := ⟨Y3.out.1, m4.only.blk_ K3.out.kinds Y3.out.2 (by decide)⟩
      have R4' := Lib.hid (R3'.out.only_ m4.only K3.out.kinds (by decide))
      have A4 := Lib.hid (A3.out.only m4.only K3.out.kinds (by decide))
      have M4 : Hid (Below w.heap.size w z4) := M3.out.trans ((m4.belowR K3.out M3.out.size).mono (Nat.le_refl _))
      have K4 : Hid (Rw 9 1 z4 w.heap.size v4 (k + 1) (ksCells (ks.take (k + 1)))) := by
        have e : ksCells (ks.take (k + 1)) = ksCells (ks.take k) ++ ksCells [x] := by unfold ksCells; rw [List.take_add_one, HXK.out, List.map_append]; rfl
        rw [Hid, e]; exact o4
      clear o4 m4
      obtain ⟨A4', cap4, hv4, _⟩ := K4.out.tsrc
      subst hv4
      refine hK.out _ _ ⟨fun _ => Z4.out.cell 0, trivial⟩ (fun hTill => ?_)
      clear hK K
      (try simp only [Act.put, List.getElem_toArray, List.getElem_cons_succ, List.getElem_cons_zero, List.setIfInBounds_toArray, List.set_cons_zero, List.set_cons_succ])
      refine wpL_take' (i := 11) (oi := _) (v := ?_) rfl (by kernel_rfl) (by kernel_rfl) (by kernel_rfl) (by kernel_rfl) (fun _ _ _ h => h) (.inl ⟨by rfl, ?_⟩) (by assumption) ?_
      rotate_left
      · intro W hSw
        (try dsimp only at hSw)
        go_simp
        (try rfl)
      (try simp only [Act.put, List.getElem_toArray, List.getElem_cons_succ, List.getElem_cons_zero, List.setIfInBounds_toArray, List.set_cons_zero, List.set_cons_succ])
      refine wpL_take' (i := 12) (oi := _) (v := ?_) rfl (by kernel_rfl) (by kernel_rfl) (by kernel_rfl) (by kernel_rfl) (fun _ _ _ h => h) (.inl ⟨by rfl, ?_⟩) (by assumption) ?_
      rotate_left
      · intro W hSw
        (try dsimp only at hSw)
        go_simp
        (try rfl)
      (try simp only [Act.put, List.getElem_toArray, List.getElem_cons_succ, List.getElem_cons_zero, List.setIfInBounds_toArray, List.set_cons_zero, List.set_cons_succ])
      refine wpL_ready (rs := [13]) (by kernel_rfl) (by simp) ?_
      refine AllL.cons (o := _) rfl (fun K hK => ?_) AllL.nil
      have zf4 := Z4.out.frozen 0
      have zc4 := Z4.out.cell 0
      simp only [List.getElem?_cons_zero] at zc4
      go_simp
      obtain ⟨z5, hz5⟩ : ∃ z5, z4.setCell ⟨gI, 0, none⟩ (.slice A4' (k + 1) cap4) = z5 := ⟨_, rfl⟩
      have O5 : Hid (Only (· = gI) z4 z5) := by rw [Hid, ← hz5]; exact (Only.refl (· = gI) z4).setCell (p := ⟨gI, 0, none⟩) (.inl rfl) _
      have Z5 : Hid (Blk z5 gI 185 [.slice A4' (k + 1) cap4, .slice Ar (k + 1) cr]) := by rw [Hid, ← hz5]; exact Z4.out.set_ 0 _
      have Y5 : Hid (RdT z5 gR (Pl.be 4 a ++ nx) false) := ⟨Y4.out.1, O5.out.blk_ (one_kinds Z4.out) Y4.out.2 (by decide)⟩
      have K5 := Lib.hid (K4.out.only_ O5.out (one_kinds Z4.out) (by decide))
      have R5' := Lib.hid (R4'.out.only_ O5.out (one_kinds Z4.out) (by decide))
      have A5 := Lib.hid (A4.out.only O5.out (one_kinds Z4.out) (by decide))
      have M5 : Hid (Below w.heap.size w z5) := M4.out.trans (O5.out.toBelow (B := w.heap.size) M4.out.size (fun j hj e => by have := HGI.out; have := HB2.out.size; have := HB1.out.size; omega))
      rw [hz5]
      refine hK.out _ _ ⟨fun h => Bool.noConfusion ((show _ = true by kernel_rfl).symm.trans h), trivial⟩ (fun hTill => ?_)
      clear hK K
      (try simp only [Act.put, List.getElem_toArray, List.getElem_cons_succ, List.getElem_cons_zero, List.setIfInBounds_toArray, List.set_cons_zero, List.set_cons_succ])
      refine wpL_done (by kernel_rfl) ?_ _
      clear hTill
      clear r1 i0 i1 f0 zf4 zc4 q2 hz5 hz3 hg3
      have i1 := Z5.out.cell 1
      have f1 := Z5.out.frozen 1
      simp only [List.getElem?_cons_succ, List.getElem?_cons_zero] at i1
      have I1 : Hid (z5.drew.cell? ⟨gI, 1, none⟩ = some (.slice Ar (k + 1) cr)) := i1
      have T6 := rnum_any gR 4 (Pl.be 4 a ++ nx) false z5.drew Y5.out (by simp [Pl.be_length]) (by omega)
      rw [num_of_take a _ rfl (by omega), drop_be] at T6
      have T6 := Lib.hid T6
      go_wp2_with fail
      refine wp_region_L 10 (fun W => W.cell? ⟨gI, 1, none⟩ = some (.slice Ar (k + 1) cr)) (fun _ => True) (by kernel_rfl) I1.out trivial (fun hTill => ?_)
      refine wpL_take' (i := 0) (oi := _) (v := ?_) rfl (by kernel_rfl) (by kernel_rfl) (by kernel_rfl) (by kernel_rfl) (fun _ _ _ h => h) (.inl ⟨by rfl, ?_⟩) (by assumption) ?_
      rotate_left
      · intro W hSw
        (try dsimp only at hSw)
        go_simp
        (try rfl)
      (try simp only [Act.put, List.getElem_toArray, List.getElem_cons_succ, List.getElem_cons_zero, List.setIfInBounds_toArray, List.set_cons_zero, List.set_cons_succ])
      refine wpL_take' (i := 1) (oi := _) (v := ?_) rfl (by kernel_rfl) (by kernel_rfl) (by kernel_rfl) (by kernel_rfl) (fun _ _ _ h => h) (.inl ⟨by rfl, ?_⟩) (by assumption) ?_
      rotate_left
      · intro W hSw
        (try dsimp only at hSw)
        go_simp
        (try rfl)
      (try simp only [Act.put, List.getElem_toArray, List.getElem_cons_succ, List.getElem_cons_zero, List.setIfInBounds_toArray, List.set_cons_zero, List.set_cons_succ])
      refine wpL_take' (i := 2) (oi := _) (v := ?_) rfl (by kernel_rfl) (by kernel_rfl) (by kernel_rfl) (by kernel_rfl) (fun _ _ _ h => h) (.inl ⟨by rfl, ?_⟩) (by assumption) ?_
      rotate_left
      · intro W hSw
        (try dsimp only at hSw)
        go_simp
        (try rfl)
      (try simp only [Act.put, List.getElem_toArray, List.getElem_cons_succ, List.getElem_cons_zero, List.setIfInBounds_toArray, List.set_cons_zero, List.set_cons_succ])
      refine wpL_take' (i := 3) (oi := _) (v := ?_) rfl (by kernel_rfl) (by kernel_rfl) (by kernel_rfl) (by kernel_rfl) (fun _ _ _ h => h) (.inl ⟨by rfl, ?_⟩) (by assumption) ?_
      rotate_left
      · intro W hSw
        (try dsimp only at hSw)
        go_simp
        (try rfl)
      (try simp only [Act.put, List.getElem_toArray, List.getElem_cons_succ, List.getElem_cons_zero, List.setIfInBounds_toArray, List.set_cons_zero, List.set_cons_succ])
      refine wpL_take (i := 4) (oi := _) (v := ?_) rfl (by kernel_rfl) (by kernel_rfl) (by kernel_rfl) (by kernel_rfl) (fun _ _ _ h => h) (.inl ⟨by rfl, ?_⟩) (by assumption) ?_
      rotate_left
      · intro W hSw
        (try dsimp only at hSw)
        go_simp
        (try rfl)
      (try simp only [Act.put, List.getElem_toArray, List.getElem_cons_succ, List.getElem_cons_zero, List.setIfInBounds_toArray, List.set_cons_zero, List.set_cons_succ])
      refine wpL_take' (i := 5) (oi := _) (v := ?_) rfl (by kernel_rfl) (by kernel_rfl) (by kernel_rfl) (by kernel_rfl) (fun _ _ _ h => h) (.inl ⟨by rfl, ?_⟩) (by assumption) ?_
      rotate_left
      · intro W hSw
        (try dsimp only at hSw)
        go_simp
        (try rfl)
      (try simp only [Act.put, List.getElem_toArray, List.getElem_cons_succ, List.getElem_cons_zero, List.setIfInBounds_toArray, List.set_cons_zero, List.set_cons_succ])
      refine wpL_ready (rs := [6]) (by kernel_rfl) (by simp) ?_
      refine AllL.cons (o := _) rfl (fun K hK => ?_) AllL.nil
      go_simp
      refine T6.out.mono ?_
      rintro e z6 ⟨rfl, y6, o6⟩
      have o6 : Only (· = gR) z5 z6 := o6.undrew
      have KR5 := Lib.hid (one_kinds Y5.out.2)
      have Z6 := Lib.hid (o6.blk_ KR5.out Z5.out (by decide))
      have Y6 := Lib.hid y6
      have K6 := Lib.hid (K5.out.only_ o6 KR5.out (by decide))
      have R6' := Lib.hid (R5'.out.only_ o6 KR5.out (by decide))
      have A6' := Lib.hid (A5.out.only o6 KR5.out (by decide))
      have M6 : Hid (Below w.heap.size w z6) := M5.out.trans (o6.toBelow (B := w.heap.size) M5.out.size (fun j hj e => by have := HGR.out; omega))
      clear y6 o6
      go_wp2_with fail
      refine hK.out _ _ ⟨fun _ => Z6.out.cell 1, trivial⟩ (fun hTill => ?_)
      clear hK K
      (try simp only [Act.put, List.getElem_toArray, List.getElem_cons_succ, List.getElem_cons_zero, List.setIfInBounds_toArray, List.set_cons_zero, List.set_cons_succ])
      refine wpL_take' (i := 7) (oi := _) (v := ?_) rfl (by kernel_rfl) (by kernel_rfl) (by kernel_rfl) (by kernel_rfl) (fun _ _ _ h => h) (.inl ⟨by rfl, ?_⟩) (by assumption) ?_
      rotate_left
      · intro W hSw
        (try dsimp only at hSw)
        go_simp
        (try rfl)
      (try simp only [Act.put, List.getElem_toArray, List.getElem_cons_succ, List.getElem_cons_zero, List.setIfInBounds_toArray, List.set_cons_zero, List.set_cons_succ])
      refine wpL_ready (rs := [8]) (by kernel_rfl) (by simp) ?_
      refine AllL.cons (o := _) rfl (fun K hK => ?_) AllL.nil
      go_simp
      obtain ⟨z7, hz7⟩ : ∃ z7, z6.alloc (.cells #[.int .i64 (a : Nat), .nilIface] 168) = z7 := ⟨_, rfl⟩
      have B7' : Hid (Below z6.heap.size z6 z7) := by rw [Hid, ← hz7]; exact (Below.refl _ _).alloc (Nat.le_refl _) _
      have Z7 := Lib.hid (Z6.out.below B7'.out Z6.out.lt)
      have Y7 := Lib.hid (Y6.out.below B7'.out)
      have K7 := Lib.hid (K6.out.below B7'.out)
      have R7' := Lib.hid (R6'.out.below B7'.out)
      have M7 := Lib.hid (M6.out.trans (B7'.out.mono M6.out.size))
      have A7' := Lib.hid (A6'.out.snoc HRL.out HAK.out hz7.symm M6.out.size)
      obtain ⟨rr, hrr⟩ : ∃ r, z6.heap.size = r := ⟨_, rfl⟩
      rw [hz7, hrr]
      rw [hrr] at A7'
      refine hK.out _ _ ⟨fun _ => Z7.out.cell 1, trivial⟩ (fun hTill => ?_)
      clear hK K
      (try simp only [Act.put, List.getElem_toArray, List.getElem_cons_succ, List.getElem_cons_zero, List.setIfInBounds_toArray, List.set_cons_zero, List.set_cons_succ])
      refine wpL_ready (rs := [9]) (by kernel_rfl) (by simp) ?_
      refine AllL.cons (o := _) rfl (fun K hK => ?_) AllL.nil
      go_simp
      have S8 := Lib.hid (src_ref z7 rr)
      obtain ⟨z8, hz8⟩ : ∃ z8, z7.alloc (.cells #[.pointer (some ⟨rr, 0, none⟩)] 156) = z8 := ⟨_, rfl⟩
      have B8' : Hid (Below z7.heap.size z7 z8) := by rw [Hid, ← hz8]; exact (Below.refl _ _).alloc (Nat.le_refl _) _
      have Z8 := Lib.hid (Z7.out.below B8'.out Z7.out.lt)
      have Y8 := Lib.hid (Y7.out.below B8'.out)
      have K8 := Lib.hid (K7.out.below B8'.out)
      have R8' := Lib.hid (R7'.out.below B8'.out)
      have M8 := Lib.hid (M7.out.trans (B8'.out.mono M7.out.size))
      have A8'' := Lib.hid (A7'.out.below B8'.out)
      obtain ⟨g8, hg8⟩ : ∃ r, z7.heap.size = r := ⟨_, rfl⟩
      rw [hz8, hg8] at S8
      rw [hz8, hg8]
      refine hK.out _ _ ⟨fun _ => Z8.out.cell 1, trivial⟩ (fun hTill => ?_)
      clear hK K
      (try simp only [Act.put, List.getElem_toArray, List.getElem_cons_succ, List.getElem_cons_zero, List.setIfInBounds_toArray, List.set_cons_zero, List.set_cons_succ])
      refine wpL_ready (rs := [10]) (by kernel_rfl) (by simp) ?_
      refine AllL.cons (o := _) rfl (fun K hK => ?_) AllL.nil
      refine step_rw Tryz.eltRef rfl (.tmp 104) (.tmp 109) rfl rfl R8'.out (some ⟨g8, 0, none⟩) 1 1 (refsCells [rr]) rfl rfl S8.out (refsCells_one _) (by omega) M8.out.size ?_
      intro v9 z9 o9 m9
      have Z9 := Lib.hid (m9.only.blk_ R8'.out.kinds Z8.out (by decide))
      have Y9 : Hid (RdT z9 gR nx false) := ⟨Y8.out.1, m9.only.blk_ R8'.out.kinds Y8.out.2 (by decide)⟩
      have K9 := Lib.hid (K8.out.only_ m9.only R8'.out.kinds (by decide))
      have A9' := Lib.hid (A8''.out.only m9.only R8'.out.kinds (by decide))
      have M9 : Hid (Below w.heap.size w z9) := M8.out.trans ((m9.belowR R8'.out M8.out.size).mono (Nat.le_refl _))
      have R9' : Hid (Rw 156 1 z9 w.heap.size v9 (k + 1 + 1) (refsCells (rs ++ [rr]))) := by
        have e : refsCells (rs ++ [rr]) = refsCells rs ++ refsCells [rr] := by unfold refsCells; rw [List.map_append]
        rw [Hid, e]; exact o9
      clear o9 m9
      obtain ⟨A9c, cap9, hv9, _⟩ := R9'.out.tsrc
      subst hv9
      refine hK.out _ _ ⟨fun _ => Z9.out.cell 1, trivial⟩ (fun hTill => ?_)
      clear hK K
      (try simp only [Act.put, List.getElem_toArray, List.getElem_cons_succ, List.getElem_cons_zero, List.setIfInBounds_toArray, List.set_cons_zero, List.set_cons_succ])
      refine wpL_take' (i := 11) (oi := _) (v := ?_) rfl (by kernel_rfl) (by kernel_rfl) (by kernel_rfl) (by kernel_rfl) (fun _ _ _ h => h) (.inl ⟨by rfl, ?_⟩) (by assumption) ?_
      rotate_left
      · intro W hSw
        (try dsimp only at hSw)
        go_simp
        (try rfl)
      (try simp only [Act.put, List.getElem_toArray, List.getElem_cons_succ, List.getElem_cons_zero, List.setIfInBounds_toArray, List.set_cons_zero, List.set_cons_succ])
      refine wpL_take' (i := 12) (oi := _) (v := ?_) rfl (by kernel_rfl) (by kernel_rfl) (by kernel_rfl) (by kernel_rfl) (fun _ _ _ h => h) (.inl ⟨by rfl, ?_⟩) (by assumption) ?_
      rotate_left
      · intro W hSw
        (try dsimp only at hSw)
        go_simp
        (try rfl)
      (try simp only [Act.put, List.getElem_toArray, List.getElem_cons_succ, List.getElem_cons_zero, List.setIfInBounds_toArray, List.set_cons_zero, List.set_cons_succ])
      refine wpL_ready (rs := [13]) (by kernel_rfl) (by simp) ?_
      refine AllL.cons (o := _) rfl (fun K hK => ?_) AllL.nil
      have zf9 := Z9.out.frozen 1
      have zc9 := Z9.out.cell 1
      simp only [List.getElem?_cons_succ, List.getElem?_cons_zero] at zc9
      go_simp
      obtain ⟨zx, hzx⟩ : ∃ zx, z9.setCell ⟨gI, 1, none⟩ (.slice A9c (k + 1 + 1) cap9) = zx := ⟨_, rfl⟩
      have Ox : Hid (Only (· = gI) z9 zx) := by rw [Hid, ← hzx]; exact (Only.refl (· = gI) z9).setCell (p := ⟨gI, 1, none⟩) (.inl rfl) _
      have Zx : Hid (Blk zx gI 185 [.slice A4' (k + 1) cap4, .slice A9c (k + 1 + 1) cap9]) := by rw [Hid, ← hzx]; exact Z9.out.set_ 1 _
      have Yx : Hid (RdT zx gR nx false) := ⟨Y9.out.1, Ox.out.blk_ (one_kinds Z9.out) Y9.out.2 (by decide)⟩
      have Kx := Lib.hid (K9.out.only_ Ox.out (one_kinds Z9.out) (by decide))
      have Rx := Lib.hid (R9'.out.only_ Ox.out (one_kinds Z9.out) (by decide))
      have Ax := Lib.hid (A9'.out.only Ox.out (one_kinds Z9.out) (by decide))
      have Mx : Hid (Below w.heap.size w zx) := M9.out.trans (Ox.out.toBelow (B := w.heap.size) M9.out.size (fun j hj e => by have := HGI.out; have := HB2.out.size; have := HB1.out.size; omega))
      have HRL2 : Hid ((rs ++ [rr]).length = k + 1 + 1) := by rw [Hid, List.length_append, HRL.out]; rfl
      rw [hzx]
      refine hK.out _ _ ⟨fun h => Bool.noConfusion ((show _ = true by kernel_rfl).symm.trans h), trivial⟩ (fun hTill => ?_)
      clear hK K
      (try simp only [Act.put, List.getElem_toArray, List.getElem_cons_succ, List.getElem_cons_zero, List.setIfInBounds_toArray, List.set_cons_zero, List.set_cons_succ])
      refine wpL_done (by kernel_rfl) ?_ _
      clear hTill
      clear i1 f1 zf9 zc9 hzx hz7 hz8 hg8 hrr
      go_wp2_with fail
      exact ⟨⟨k + 1, by omega, by go_num, (by rw [HNX.out]; exact Yx), Mx, _, _, _, _, rs ++ [rr], Zx, Kx, Rx, HRL2, Ax⟩, by simp [intOf]; omega⟩
    · obtain rfl : k = n := by omega
      have q1 : ¬ (0 : Int) < (k : Int) - k := by omega
      have q2 := decide_eq_false q1
      have r1 := HR.out.2.cell 1
      simp only [List.getElem?_cons_succ, List.getElem?_cons_zero] at r1
      obtain ⟨hc1, hs1⟩ : k ≤ ck ∧ TSrc wr Ak (ksCells (ks.take k)) 9 := by
        obtain ⟨_, _, e1, h1, h2, _⟩ := HK.out.tsrc
        cases e1
        exact ⟨h1, h2⟩
      obtain ⟨hc2, hs2⟩ : k + 1 ≤ cr ∧ TSrc wr Ar (refsCells rs) 156 := by
        obtain ⟨_, _, e1, h1, h2, _⟩ := HRR.out.tsrc
        cases e1
        exact ⟨h1, h2⟩
      have HIA : Hid (InnerAt wr gI ks rs) := by
        refine ⟨Ak, ck, Ar, cr, ?_, ?_, ?_, ?_, hs2⟩
        · rw [HN.out, HRL.out]; exact HL.out
        · rw [HN.out]; exact hc1
        · rw [HRL.out]; exact hc2
        · have e := List.take_length (l := ks)
          rw [HN.out] at e
          rw [e] at hs1
          exact hs1
      have HGE : Hid (w.heap.size ≤ gI) := by have := HGI.out; have := HB2.out.size; have := HB1.out.size; rw [Hid]; omega
      clear hc1 hc2 hs1 hs2
      go_wp2_with fail
      go_ret
      exact ⟨gI, rs, rfl, HIA.out, by rw [HRL.out, HAL.out], HA.out, HGE.out, HM.out⟩
end Go.Proofs.YtljmklohgpaopaaGreatDoor
