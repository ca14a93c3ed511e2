/- The document's Headers, Hash. The document's Texts of a tree. The chain's apart: its two closures. -/
import Derived.Test.YtljmklohgpaopaaGreatDoorMgClashes17
import Derived.Test.YtljmklohgpaopaaGreatDoorMgClashes13
import Derived.Lib.SliceRun
set_option linter.unusedVariables false
set_option linter.unusedSimpArgs false

namespace Go.Proofs.YtljmklohgpaopaaGreatDoor
open Go.RowKit

def hdrs (P : List Pl.Txn) (k : Nat) : List (List UInt8) := (List.range k).map (Pl.hdr P)
theorem hdrs_succ (P : List Pl.Txn) (k : Nat) : hdrs P (k + 1) = hdrs P k ++ [Pl.hdr P k] := by unfold hdrs; rw [List.range_succ, List.map_append]; rfl
theorem hdrs_len (P : List Pl.Txn) (k : Nat) : (hdrs P k).length = k := by simp [hdrs]
theorem hdrs_at (P : List Pl.Txn) (k n : Nat) (h : k < n) : (hdrs P n)[k]? = some (Pl.hdr P k) := by simp [hdrs, h]
theorem be4_zero (P : List Pl.Txn) : ([0, 0, 0, 0] : List UInt8) = Pl.be 4 (Pl.hashAt P 0) := by rw [show Pl.hashAt P 0 = 0 from rfl]; simp [Pl.be]
set_option maxHeartbeats 2000000 in
set_option maxRecDepth 100000 in
theorem headersR_any (n cap : Nat) (A : Option Addr) (ts : List Pl.Txn) (w : World) (hT : TxsAt w A ts) (hn : ts.length = n) (hm : n ≤ 1048576) (hok : ∀ t ∈ ts, Pl.TxOk t) :
    Calls Tryz.prog 12 #[.slice A n cap] w (StrsPost w (hdrs ts (n / 3))) := by
  obtain ⟨j0, hj0, hy0, hy1, hy2⟩ := info_parts Tryz.infoStr
  have HI := Lib.hid (And.intro hj0 (And.intro hy0 (And.intro hy1 hy2)))
  have HT := Lib.hid hT
  have HN := Lib.hid hn
  have HOK := Lib.hid hok
  clear hT hn hok hj0 hy0 hy1 hy2
  go_enter Tryz.func12, Tryz.ntmps12
  go_wp2_with fail
  go_loopw [3, 4, 5] (fun u s i wr => ∃ (b k : Nat) (last : List UInt8), b = k + 1 ∧ 3 * k ≤ n ∧ i = .int .i64 (b : Int) ∧ s = .string (tstr last) ∧ Hid (last = Pl.be 4 (Pl.hashAt ts k)) ∧ Hid (SL wr w.heap.size u (hdrs ts k)) ∧ Hid (Below w.heap.size w wr)) (fun _ _ i _ => n + 2 - (intOf i).toNat)
  case atStart => exact ⟨1, 0, [0, 0, 0, 0], rfl, by omega, rfl, rfl, be4_zero ts, OL.nil _ _, Below.refl _ _⟩
  case round =>
    obtain ⟨b, k, last, hbk, hk, rfl, rfl, HL, HO, HB⟩ := hrel
    by_cases hlt : 3 * b ≤ n
    · have q1 : (b : Int) * 3 ≤ (n : Int) := by omega
      have w6 : IntKind.u64.wrap ((b : Nat) : Int) = (b : Int) := by rw [IntKind.wrap_u64]; omega
      have HBY := Lib.hid (fun W => refBytes_tx b 4 W (by omega) (by omega))
      obtain ⟨bb, hbb⟩ : ∃ x, Pl.be 4 b = x := ⟨_, rfl⟩
      have hbl : bb.length = 4 := by rw [← hbb, Pl.be_length]
      have hll : last.length = 4 := by rw [HL.out, Pl.be_length]
      rw [hbb] at HBY
      have k1 : ∀ W, (Op.stringOp .add ⟨#[66]⟩ (tstr bb)).run Tryz.prog W = .ok (.string (tstr (66 :: bb))) W := fun W => run_cat W [66] bb (by simp; omega)
      have k2 : ∀ W, (Op.stringOp .add (tstr (66 :: bb)) (tstr last)).run Tryz.prog W = .ok (.string (tstr (66 :: bb ++ last))) W := fun W => run_cat W (66 :: bb) last (by simp; omega)
      obtain ⟨r, hr⟩ : ∃ r, Pl.be 4 (Pl.root (Pl.ents ts k)) = r := ⟨_, rfl⟩
      have hrl : r.length = 4 := by rw [← hr, Pl.be_length]
      have k3 : ∀ W, (Op.stringOp .add (tstr (66 :: bb ++ last)) (tstr r)).run Tryz.prog W = .ok (.string (tstr (66 :: bb ++ last ++ r))) W := fun W => run_cat W (66 :: bb ++ last) r (by simp; omega)
      have HH : Hid (66 :: bb ++ last ++ r = Pl.hdr ts k) := by
        rw [Hid, ← hbb, HL.out, ← hr, hbk]
        simp [Pl.hdr, Pl.header]
      have hql : (66 :: bb ++ last ++ r).length = 13 := by simp; omega
      obtain ⟨x, hx⟩ : ∃ x, 66 :: bb ++ last ++ r = x := ⟨_, rfl⟩
      rw [hx] at k3 HH hql
      obtain ⟨y1, hy1⟩ : ∃ x, 66 :: bb ++ last = x := ⟨_, rfl⟩
      rw [hy1] at k2 k3
      obtain ⟨y2, hy2⟩ : ∃ x, 66 :: bb = x := ⟨_, rfl⟩
      rw [hy2] at k1 k2
      have HR := Lib.hid hr
      have HQL := Lib.hid hql
      have HBK := Lib.hid hbk
      clear hbb hbl hll hr hrl hql hx hy1 hy2 hbk
      go_wp2_with fail
      refine (HBY.out _).mono ?_
      rintro e w1 ⟨rfl, hb1⟩
      have B1 := Lib.hid (HB.out.trans (hb1.mono HB.out.size))
      have HES := Lib.hid (entriesR_any k (b : Int) (by rw [HBK.out]) n cap A ts w1 (HT.out.below B1.out) HN.out hm (by have := HBK.out; omega) HOK.out)
      have O1 := Lib.hid (HO.out.below StR.fr hb1)
      clear hb1
      go_wp2_with fail
      refine HES.out.mono ?_
      rintro e w2 ⟨v, rfl, hsl, hb2⟩
      obtain ⟨A1, cap1, rfl, hc1, hss, _⟩ := hsl.strs
      have HRT := Lib.hid (refRoot_tx (Pl.ents ts k) A1 3 cap1 w2 hss rfl hc1 (by omega))
      rw [HR.out] at HRT
      have B2 := Lib.hid (B1.out.trans (hb2.mono B1.out.size))
      have O2 := Lib.hid (O1.out.below StR.fr hb2)
      rw [Pl.ents_length]
      clear hsl hss hb2 hc1
      go_wp2_with fail
      refine HRT.out.mono ?_
      rintro e w3 ⟨rfl, hb3⟩
      have B3 := Lib.hid (B2.out.trans (hb3.mono B2.out.size))
      obtain ⟨W3, hW3⟩ : ∃ W, w3.alloc (.cells #[.string (tstr x)] 9) = W := ⟨_, rfl⟩
      have hb4 : Below w3.heap.size w3 W3 := by rw [← hW3]; exact below_alloc _ _
      have S4 : Hid (Src W3 (some ⟨w3.heap.size, 0, none⟩) [.string (tstr x)]) := Src.of_blk (t := 9) (by rw [← hW3]; exact Blk.new w3 9 _)
      have O4 := Lib.hid ((O2.out.below StR.fr hb3).below StR.fr hb4)
      have B4 := Lib.hid (B3.out.trans (hb4.mono B3.out.size))
      have HLN : Hid ((hdrs ts k).length ≤ 4294967296) := by rw [Hid, hdrs_len]; omega
      have R4 : Hid (StR W3 (fun b => w.heap.size ≤ b ∧ b < W3.heap.size ∧ u3.ownBlock ≠ some b) [.string (tstr x)] x) := ⟨rfl, by have := HQL.out; omega⟩
      have HSUM := Lib.hid (fun W => refSum_tx x W (by have := HQL.out; omega))
      obtain ⟨ls2, hls2⟩ : ∃ z, Pl.be 4 (Pl.sumN x) = z := ⟨_, rfl⟩
      rw [hls2] at HSUM
      have HLS : Hid (ls2 = Pl.be 4 (Pl.hashAt ts (k + 1))) := by rw [Hid, ← hls2, HH.out, Pl.hashAt_succ]
      clear hb3 hb4 hls2
      go_wp2_with (first
        | (at_builtin
           refine wpList_ol (v := u3) StR.fr rfl (.tmp 25) (.tmp 27) 22 rfl Tryz.underlying22 HI.out.1 HI.out.2.1 HI.out.2.2.1 HI.out.2.2.2 rfl (by decide) rfl O4.out (some ⟨w3.heap.size, 0, none⟩) 1 [.string (tstr x)] x rfl rfl S4.out (by simp; rfl) R4.out HLN.out (by decide) B4.out.size ?_
           intro v5 w5 o5 m5
           have O5 : Hid (SL w5 w.heap.size v5 (hdrs ts (k + 1))) := by rw [hdrs_succ, ← HH.out]; exact o5
           have B5 : Hid (Below w.heap.size w w5) := B4.out.trans (m5.only.toBelow B4.out.size (fun b hb e => by have := (O4.out.lt b e).1; omega))
           clear o5 m5)
        | fail)
      refine (HSUM.out _).mono ?_
      rintro e w6 ⟨rfl, hb6⟩
      have O6 := Lib.hid (O5.out.below StR.fr hb6)
      have B6 := Lib.hid (B5.out.trans (hb6.mono B5.out.size))
      clear hb6
      go_wp2_with fail
      exact ⟨⟨b + 1, k + 1, ls2, by rw [HBK.out], by have := HBK.out; omega, by go_num, rfl, HLS.out, O6.out, B6.out⟩, by simp [intOf]; omega⟩
    · have q1 : ¬ (b : Int) * 3 ≤ (n : Int) := by omega
      have HO2 : Hid (SL wr w.heap.size u3 (hdrs ts (n / 3))) := by
        have := HO.out
        rw [show k = n / 3 by omega] at this
        exact this
      clear HO
      go_wp2_with fail
      go_ret
      exact ⟨_, rfl, HO2.out, HB.out⟩
set_option maxHeartbeats 1000000 in
theorem hashR_any (k cap : Nat) (A : Option Addr) (ts : List Pl.Txn) (w : World) (hS : StrSrc w A (hdrs ts k)) (hk : k ≤ 1048576) :
    Calls Tryz.prog 13 #[.slice A k cap, .int .i64 k] w (TX w (Pl.be 4 (Pl.hashAt ts k))) := by
  by_cases h0 : k = 0
  · subst h0
    go_enter Tryz.func13, Tryz.ntmps13
    go_wp2_with fail
    go_ret
    exact ⟨by rw [← be4_zero]; rfl, Below.refl _ _⟩
  · obtain ⟨j, rfl⟩ : ∃ j, k = j + 1 := ⟨k - 1, by omega⟩
    obtain ⟨k, hkk⟩ : ∃ k, j + 1 = k := ⟨_, rfl⟩
    rw [hkk] at hk h0 ⊢
    have q1 : (((k : Nat) : Int) == 0) = false := beq_eq_false_iff_ne.2 (by omega)
    have q2 : (k : Int) - 1 = (j : Int) := by omega
    have q3 : (0 : Int) ≤ (j : Int) := by omega
    have q4 : (j : Int) < (k : Int) := by omega
    have hat : ((hdrs ts (j + 1)).map fun l => Value.string (tstr l))[j]? = some (.string (tstr (Pl.hdr ts j))) := by rw [List.getElem?_map, hdrs_at _ _ _ (by omega)]; rfl
    obtain ⟨b, off, rfl, g0⟩ := hS.1.at_ _ _ hat
    obtain ⟨x, hx⟩ : ∃ x, Pl.hdr ts j = x := ⟨_, rfl⟩
    have hxl : x.length = 13 := by rw [← hx]; exact Pl.header_length _ _ _
    rw [hx] at g0
    have HS := Lib.hid (refSum_tx x w (by omega))
    have HX : Hid (Pl.be 4 (Pl.hashAt ts k) = Pl.be 4 (Pl.sumN x)) := by rw [Hid, ← hkk, Pl.hashAt_succ, hx]
    rw [HX.out]
    clear hS hat hx hkk hxl
    go_enter Tryz.func13, Tryz.ntmps13
    go_wp2_with fail
    refine HS.out.mono ?_
    rintro e w' ⟨rfl, hb⟩
    have HB := Lib.hid hb
    clear hb
    go_wp2_with fail
    go_ret
    exact ⟨rfl, HB.out⟩
end Go.Proofs.YtljmklohgpaopaaGreatDoor

namespace Go.Proofs.YtljmklohgpaopaaGreatDoor
open Go.RowKit

theorem rows_strs (w : World) (P : Nat → Prop) : ∀ (ls : List (List UInt8)), (∀ l ∈ ls, l.length ≤ 140737488351232) → RowsR 1 (StR w P) (ls.map fun l => .string (tstr l)) ls := fun ls h =>
  ⟨by rw [List.length_map, Nat.one_mul], fun k x hk => by
    obtain ⟨hlt, rfl⟩ := List.getElem?_eq_some_iff.1 hk
    refine ⟨?_, h _ (List.getElem_mem hlt)⟩
    rw [Nat.one_mul, List.drop_eq_getElem_cons (by rw [List.length_map]; exact hlt), List.take_succ_cons, List.take_zero, List.getElem_map]⟩
theorem SL.lit (w : World) (x : List UInt8) (base : Nat) (hb : base ≤ w.heap.size) (hx : x.length ≤ 140737488351232) :
    SL (w.alloc (.cells #[.string (tstr x)] 9)) base (.slice (some ⟨w.heap.size, 0, none⟩) 1 1) [x] :=
  ⟨[.string (tstr x)], ⟨rfl, .inr ⟨w.heap.size, 1, #[.string (tstr x)], rfl, hb, heap_alloc_new w _, Nat.le_refl _, by simp [maxLen], rfl, rfl⟩⟩, rows_strs _ _ [x] (by simpa using hx)⟩
theorem SL.len {w : World} {base : Nat} {v : Value} {ls : List (List UInt8)} (h : SL w base v ls) : ∀ l ∈ ls, l.length ≤ 140737488351232 := by
  obtain ⟨A, cap, rfl, _, hs, _⟩ := h.strs
  exact hs.2
theorem SL.strs_src {w : World} {base n c : Nat} {A : Option Addr} {ls : List (List UInt8)} (h : SL w base (.slice A n c) ls) : StrSrc w A ls := by
  obtain ⟨A', cap, h1, _, hs, _⟩ := h.strs
  injection h1 with h1
  rw [h1]; exact hs
theorem wpList_strs {P : Program} {ops : Array Oper} {rest : List Oper} {o : Oper} {a : Act} {Q : Exit → Act → World → Prop} {w : World} {base : Nat} {v : Value} {xs : List (List UInt8)} (hgd : o.guard = none) (sl x : Operand) (t : TypeId)
    (ho : o.op = .call { callee := .builtin .append, args := #[sl, x], argTypes := #[t, t] }) {i : TypeInfo} {z : Value} (ht : P.underlying t = some (.slice 9)) (hi : P.info? 9 = some i) (hz : i.zero = some z)
    (hsize : i.size = 1) (hby : i.bytes = 16) (hzs : z.cells.size = 1) (hs : a.eval sl = v) (h : SL w base v xs)
    (A : Option Addr) (m cap : Nat) (ys : List (List UInt8)) (hx : a.eval x = .slice A m cap) (hm : ys.length = m) (hr : StrSrc w A ys)
    (hl : xs.length + m ≤ 4294967296) (hbase : base ≤ w.heap.size)
    (hK : ∀ v' w', SL w' base v' (xs ++ ys) → Mv w w' v v' → wpList P ops Q rest (a.put o.dst v') w') : wpList P ops Q (o :: rest) a w := by
  have hlen := h.len
  obtain ⟨cs, h2, h3⟩ := h
  have hcs := h3.strs
  subst hcs
  refine wpList_append_src w hgd sl x t ho base 9 i z 1 16 ht hi hz hsize hby hzs (by decide) v xs.length _ hs h2 A m cap (ys.map fun l => .string (tstr l)) hx (by rw [List.length_map, hm, Nat.mul_one]) hr.1 (fun u hu => ?_) (by simp only [maxLen]; omega) (fun old ho => ?_) hbase (fun v' w' h4 h5 h6 => hK v' w' ?_ ?_)
  · obtain ⟨l, _, rfl⟩ := List.mem_map.1 hu
    rfl
  · have := nextslicecap_le54 ho
    omega
  · refine ⟨(xs ++ ys).map fun l => .string (tstr l), ?_, rows_strs _ _ _ (fun l hl => ?_)⟩
    · rw [List.map_append, List.length_append, hm]; exact h4
    · rcases List.mem_append.1 hl with hl | hl
      · exact hlen l hl
      · exact hr.2 l hl
  · refine ⟨h5, fun k hk hn => ?_⟩
    rcases h6 with e' | e'
    · rw [e']; exact hn
    · rw [e']; intro e; injection e; omega
theorem textsR_nil (A : Option Addr) (cap : Nat) (w : World) : Calls Tryz.prog 42 #[.slice A 0 cap] w (StrsPost w (Pl.ttexts [])) := by
  rw [Pl.ttexts_nil]
  go_enter Tryz.func42, Tryz.ntmps42
  go_wp2_with fail
  go_ret
  exact ⟨_, rfl, OL.nil _ _, Below.refl _ _⟩
theorem textsR_one (l : List UInt8) (A : Option Addr) (cap : Nat) (w : World) (h : StrSrc w A [l]) (hl : l.length ≤ 1000000) : Calls Tryz.prog 42 #[.slice A 1 cap] w (StrsPost w (Pl.ttexts [l])) := by
  rw [Pl.ttexts_one]
  obtain ⟨b, off, rfl, g0⟩ := h.1.at_ 0 (.string (tstr l)) rfl
  rw [Nat.add_zero] at g0
  have k1 : ∀ W, (Op.stringOp .add ⟨#[0]⟩ (tstr l)).run Tryz.prog W = .ok (.string (tstr (0 :: l))) W := fun W => run_cat W [0] l (by simp; omega)
  obtain ⟨x, hx⟩ : ∃ x, 0 :: l = x := ⟨_, rfl⟩
  have hxl : x.length ≤ 140737488351232 := by rw [← hx, List.length_cons]; omega
  rw [hx] at k1 ⊢
  have HO := Lib.hid (SL.lit w x w.heap.size (Nat.le_refl _) hxl)
  clear h hl hx hxl
  go_enter Tryz.func42, Tryz.ntmps42
  go_wp2_with fail
  go_ret
  exact ⟨_, rfl, HO.out, below_alloc _ _⟩
set_option maxHeartbeats 4000000 in
set_option maxRecDepth 100000 in
theorem textsR_step (n : Nat) (ls : List (List UInt8)) (A : Option Addr) (cap : Nat) (w : World) (hn : ls.length = n) (h2 : 2 ≤ n) (h : StrSrc w A ls) (hc : n ≤ cap) (hm : n ≤ 1048576) (hE : ∀ l ∈ ls, l.length ≤ 1000000)
    (ih : ∀ (n' : Nat) (ls' : List (List UInt8)) (A : Option Addr) (cap : Nat) (w : World), n' < n → ls'.length = n' → StrSrc w A ls' → n' ≤ cap → (∀ l ∈ ls', l.length ≤ 1000000) → Calls Tryz.prog 42 #[.slice A n' cap] w (StrsPost w (Pl.ttexts ls'))) :
    Calls Tryz.prog 42 #[.slice A n cap] w (StrsPost w (Pl.ttexts ls)) := by
  obtain ⟨j0, hj0, hy0, hy1, hy2⟩ := info_parts Tryz.infoStr
  have HI := Lib.hid (And.intro hj0 (And.intro hy0 (And.intro hy1 hy2)))
  obtain ⟨k, hk⟩ : ∃ k, Pl.half n = k := ⟨_, rfl⟩
  have hk1 := Pl.half_pos n
  have hk2 := Pl.half_lt h2
  rw [hk] at hk1 hk2
  have hne : 0 < (ls.map fun l => Value.string (tstr l)).length := by rw [List.length_map]; omega
  obtain ⟨b, off, rfl⟩ := h.1.addr hne
  obtain ⟨la, hla⟩ : ∃ l, ls.take k = l := ⟨_, rfl⟩
  obtain ⟨lb, hlb⟩ : ∃ l, ls.drop k = l := ⟨_, rfl⟩
  have HS : Hid (StrSrc w (some ⟨b, off, none⟩) la ∧ StrSrc w (some ⟨b, off + k, none⟩) lb) := by
    refine ⟨⟨?_, fun l hl => h.2 l (by rw [← hla] at hl; exact List.mem_of_mem_take hl)⟩, ⟨?_, fun l hl => h.2 l (by rw [← hlb] at hl; exact List.mem_of_mem_drop hl)⟩⟩
    · rw [← hla, List.map_take]; exact h.1.take k
    · rw [← hlb, List.map_drop]; exact h.1.off k
  have HSA := Lib.hid HS.out.1
  have HSB := Lib.hid HS.out.2
  have hal : la.length = k := by rw [← hla, List.length_take]; omega
  have hbl : lb.length = n - k := by rw [← hlb, List.length_drop]; omega
  have HRA := Lib.hid (fun W (hW : StrSrc W (some ⟨b, off, none⟩) la) => refRoot_tx la _ k cap W hW hal (by omega) (by omega))
  have HRB := Lib.hid (fun W (hW : StrSrc W (some ⟨b, off + k, none⟩) lb) => refRoot_tx lb _ (n - k) (cap - k) W hW hbl (by omega) (by omega))
  have HTA := Lib.hid (fun W (hW : StrSrc W (some ⟨b, off, none⟩) la) => ih k la _ cap W (by omega) hal hW (by omega) (fun l hl => hE l (by rw [← hla] at hl; exact List.mem_of_mem_take hl)))
  have HTB := Lib.hid (fun W (hW : StrSrc W (some ⟨b, off + k, none⟩) lb) => ih (n - k) lb _ (cap - k) W (by omega) hbl hW (by omega) (fun l hl => hE l (by rw [← hlb] at hl; exact List.mem_of_mem_drop hl)))
  have HTT := Pl.ttexts_many ls (by omega)
  rw [hn, hk, hla, hlb] at HTT
  obtain ⟨ra, hra⟩ : ∃ r, Pl.be 4 (Pl.root la) = r := ⟨_, rfl⟩
  obtain ⟨rb, hrb⟩ : ∃ r, Pl.be 4 (Pl.root lb) = r := ⟨_, rfl⟩
  have hral : ra.length = 4 := by rw [← hra, Pl.be_length]
  have hrbl : rb.length = 4 := by rw [← hrb, Pl.be_length]
  have hta := Pl.ttexts_length k la hal (by omega)
  have htb := Pl.ttexts_length (n - k) lb hbl (by omega)
  rw [hra] at HRA HTT
  rw [hrb] at HRB HTT
  obtain ⟨ta, hta'⟩ : ∃ r, Pl.ttexts la = r := ⟨_, rfl⟩
  obtain ⟨tb, htb'⟩ : ∃ r, Pl.ttexts lb = r := ⟨_, rfl⟩
  rw [hta'] at HTA HTT hta
  rw [htb'] at HTB HTT htb
  have k1 : ∀ W, (Op.stringOp .add ⟨#[1]⟩ (tstr ra)).run Tryz.prog W = .ok (.string (tstr (1 :: ra))) W := fun W => run_cat W [1] ra (by simp; omega)
  have k2 : ∀ W, (Op.stringOp .add (tstr (1 :: ra)) (tstr rb)).run Tryz.prog W = .ok (.string (tstr (1 :: ra ++ rb))) W := fun W => run_cat W (1 :: ra) rb (by simp; omega)
  obtain ⟨x, hx⟩ : ∃ x, 1 :: ra ++ rb = x := ⟨_, rfl⟩
  have HXL : Hid (x.length ≤ 140737488351232) := by rw [Hid, ← hx]; simp; omega
  rw [hx] at k2
  rw [show 1 :: (ra ++ rb) = x from hx] at HTT
  obtain ⟨y1, hy⟩ : ∃ y, 1 :: ra = y := ⟨_, rfl⟩
  rw [hy] at k1 k2
  have HTT := Lib.hid HTT
  have HTAL := Lib.hid hta
  have HTBL := Lib.hid htb
  have HK := Lib.hid hk
  have hx0 : (0 : Int) ≤ (k : Int) := by omega
  have hx1 : (k : Int) ≤ (cap : Int) := by omega
  have hx2 : (k : Int) ≤ (n : Int) := by omega
  have hx3 : ¬ cap = k := by omega
  have q0 : ((n : Int) == 0) = false := beq_eq_false_iff_ne.2 (by omega)
  have q1 : ((n : Int) == 1) = false := beq_eq_false_iff_ne.2 (by omega)
  have HHALF := Lib.hid (fun W => refHalf_any n W (by omega) (by omega))
  rw [hk] at HHALF
  clear h hn hne hla hlb HS hal hbl ih hra hrb hral hrbl hta htb hta' htb' hx hy hk hE hj0 hy0 hy1 hy2
  go_enter Tryz.func42, Tryz.ntmps42
  go_wp2_with fail
  refine (HHALF.out _).mono ?_
  rintro e w' ⟨rfl, rfl⟩
  have B_0 : Hid (Below w.heap.size w w.drew) := (Below.refl _ _).drew
  go_upto_region 6 with fail
  go_cut [4] from 21 (fun s4 wx => ∃ (A4 : Option Addr) (c4 : Nat), s4 = .slice A4 1 c4 ∧ Hid (SL wx w.heap.size (.slice A4 1 c4) [x]) ∧ Hid (Below w.heap.size w wx))
  case first =>
    refine wp_region_L 99 (fun _ => True) (fun _ => True) (by kernel_rfl) trivial trivial (fun hTill => ?_)
    refine wpL_take' (i := 0) (oi := _) (v := ?_) rfl (by kernel_rfl) (by kernel_rfl) (by kernel_rfl) (by kernel_rfl) (fun _ _ _ h => h) (.inl ⟨by rfl, ?_⟩) (by assumption) ?_
    rotate_left
    · intro W hSw
      (try dsimp only at hSw)
      go_simp
      (try rfl)
    (try simp only [Act.put, List.getElem_toArray, List.getElem_cons_succ, List.getElem_cons_zero, List.setIfInBounds_toArray, List.set_cons_zero, List.set_cons_succ])
    refine wpL_take' (i := 1) (oi := _) (v := ?_) rfl (by kernel_rfl) (by kernel_rfl) (by kernel_rfl) (by kernel_rfl) (fun _ _ _ h => h) (.inl ⟨by rfl, ?_⟩) (by assumption) ?_
    rotate_left
    · intro W hSw
      (try dsimp only at hSw)
      go_simp
      (try rfl)
    (try simp only [Act.put, List.getElem_toArray, List.getElem_cons_succ, List.getElem_cons_zero, List.setIfInBounds_toArray, List.set_cons_zero, List.set_cons_succ])
    refine wpL_take' (i := 2) (oi := _) (v := ?_) rfl (by kernel_rfl) (by kernel_rfl) (by kernel_rfl) (by kernel_rfl) (fun _ _ _ h => h) (.inl ⟨by rfl, ?_⟩) (by assumption) ?_
    rotate_left
    · intro W hSw
      (try dsimp only at hSw)
      go_simp
      (try rfl)
    (try simp only [Act.put, List.getElem_toArray, List.getElem_cons_succ, List.getElem_cons_zero, List.setIfInBounds_toArray, List.set_cons_zero, List.set_cons_succ])
    refine wpL_take' (i := 5) (oi := _) (v := ?_) rfl (by kernel_rfl) (by kernel_rfl) (by kernel_rfl) (by kernel_rfl) (fun _ _ _ h => h) (.inl ⟨by rfl, ?_⟩) (by assumption) ?_
    rotate_left
    · intro W hSw
      (try dsimp only at hSw)
      go_simp
      (try rfl)
    (try simp only [Act.put, List.getElem_toArray, List.getElem_cons_succ, List.getElem_cons_zero, List.setIfInBounds_toArray, List.set_cons_zero, List.set_cons_succ])
    refine wpL_take' (i := 6) (oi := _) (v := ?_) rfl (by kernel_rfl) (by kernel_rfl) (by kernel_rfl) (by kernel_rfl) (fun _ _ _ h => h) (.inl ⟨by rfl, ?_⟩) (by assumption) ?_
    rotate_left
    · intro W hSw
      (try dsimp only at hSw)
      go_simp
      (try rfl)
    (try simp only [Act.put, List.getElem_toArray, List.getElem_cons_succ, List.getElem_cons_zero, List.setIfInBounds_toArray, List.set_cons_zero, List.set_cons_succ])
    refine wpL_take' (i := 7) (oi := _) (v := ?_) rfl (by kernel_rfl) (by kernel_rfl) (by kernel_rfl) (by kernel_rfl) (fun _ _ _ h => h) (.inl ⟨by rfl, ?_⟩) (by assumption) ?_
    rotate_left
    · intro W hSw
      (try dsimp only at hSw)
      go_simp
      (try rfl)
    (try simp only [Act.put, List.getElem_toArray, List.getElem_cons_succ, List.getElem_cons_zero, List.setIfInBounds_toArray, List.set_cons_zero, List.set_cons_succ])
    refine wpL_ready (rs := [3]) (by kernel_rfl) (by simp) ?_
    refine AllL.cons (o := _) rfl (fun K hK => ?_) AllL.nil
    go_simp
    refine (HRA.out _ (HSA.out.below B_0.out)).mono ?_
    rintro e W1 ⟨rfl, hb1⟩
    have B_1 : Hid (Below w.heap.size w W1) := B_0.out.trans (hb1.mono B_0.out.size)
    clear hb1
    go_wp2_with fail
    refine hK.out _ _ ⟨fun _ => trivial, trivial⟩ (fun hTill => ?_)
    clear hK K
    (try simp only [Act.put, List.getElem_toArray, List.getElem_cons_succ, List.getElem_cons_zero, List.setIfInBounds_toArray, List.set_cons_zero, List.set_cons_succ])
    refine wpL_take' (i := 4) (oi := _) (v := ?_) rfl (by kernel_rfl) (by kernel_rfl) (by kernel_rfl) (by kernel_rfl) (fun _ _ _ h => h) (.inl ⟨by rfl, ?_⟩) (by assumption) ?_
    rotate_left
    · intro W hSw
      (try dsimp only at hSw)
      go_simp
      (try rfl)
    (try simp only [Act.put, List.getElem_toArray, List.getElem_cons_succ, List.getElem_cons_zero, List.setIfInBounds_toArray, List.set_cons_zero, List.set_cons_succ])
    refine wpL_ready (rs := [8]) (by kernel_rfl) (by simp) ?_
    refine AllL.cons (o := _) rfl (fun K hK => ?_) AllL.nil
    go_simp
    refine (HRB.out _ (HSB.out.below B_1.out)).mono ?_
    rintro e W2 ⟨rfl, hb2⟩
    have B_2 : Hid (Below w.heap.size w W2) := B_1.out.trans (hb2.mono B_1.out.size)
    clear hb2
    go_wp2_with fail
    refine hK.out _ _ ⟨fun _ => trivial, trivial⟩ (fun hTill => ?_)
    clear hK K
    (try simp only [Act.put, List.getElem_toArray, List.getElem_cons_succ, List.getElem_cons_zero, List.setIfInBounds_toArray, List.set_cons_zero, List.set_cons_succ])
    refine wpL_take' (i := 9) (oi := _) (v := ?_) rfl (by kernel_rfl) (by kernel_rfl) (by kernel_rfl) (by kernel_rfl) (fun _ _ _ h => h) (.inl ⟨by rfl, ?_⟩) (by assumption) ?_
    rotate_left
    · intro W hSw
      (try dsimp only at hSw)
      go_simp
      (try rfl)
    (try simp only [Act.put, List.getElem_toArray, List.getElem_cons_succ, List.getElem_cons_zero, List.setIfInBounds_toArray, List.set_cons_zero, List.set_cons_succ])
    refine wpL_ready (rs := [10]) (by kernel_rfl) (by simp) ?_
    refine AllL.cons (o := _) rfl (fun K hK => ?_) AllL.nil
    obtain ⟨W3, hW3⟩ : ∃ W, World.alloc W2 (.cells #[.string (tstr x)] 9) = W := ⟨_, rfl⟩
    have B_3 : Hid (Below w.heap.size w W3) := by rw [Hid, ← hW3]; exact B_2.out.alloc B_2.out.size _
    have O_3 : Hid (SL W3 w.heap.size (.slice (some ⟨W2.heap.size, 0, none⟩) 1 1) [x]) := by rw [Hid, ← hW3]; exact SL.lit W2 x _ B_2.out.size HXL.out
    go_simp
    (try rw [hW3])
    refine hK.out _ _ ⟨fun _ => trivial, trivial⟩ (fun hTill => ?_)
    clear hK K
    (try simp only [Act.put, List.getElem_toArray, List.getElem_cons_succ, List.getElem_cons_zero, List.setIfInBounds_toArray, List.set_cons_zero, List.set_cons_succ])
    refine wpL_take' (i := 11) (oi := _) (v := ?_) rfl (by kernel_rfl) (by kernel_rfl) (by kernel_rfl) (by kernel_rfl) (fun _ _ _ h => h) (.inl ⟨by rfl, ?_⟩) (by assumption) ?_
    rotate_left
    · intro W hSw
      (try dsimp only at hSw)
      go_simp
      (try rfl)
    (try simp only [Act.put, List.getElem_toArray, List.getElem_cons_succ, List.getElem_cons_zero, List.setIfInBounds_toArray, List.set_cons_zero, List.set_cons_succ])
    refine wpL_done (by kernel_rfl) ?_ _
    clear hTill
    go_wp2_with fail
    go_meet
    exact ⟨_, 1, rfl, O_3.out, B_3.out⟩
  case rest =>
    obtain ⟨A4, c4, rfl, HO, HB⟩ := hcut
    have HCA := Lib.hid (HTA.out _ (HSA.out.below HB.out))
    go_wp2_with fail
    refine HCA.out.mono ?_
    rintro e w4 ⟨va, rfl, hoa, hb4⟩
    have B4 := Lib.hid (HB.out.trans (hb4.mono HB.out.size))
    have O4 := HO.out.below StR.fr hb4
    have HCB := Lib.hid (HTB.out _ (HSB.out.below B4.out))
    obtain ⟨Aa, ca, rfl, _, hsa, _⟩ := hoa.strs
    rw [HTAL.out]
    clear hb4 hoa HCA
    go_wp2_with fail
    refine HCB.out.mono ?_
    rintro e w5 ⟨vb, rfl, hob, hb5⟩
    have B5 := Lib.hid (B4.out.trans (hb5.mono B4.out.size))
    have O5 := Lib.hid (O4.below StR.fr hb5)
    obtain ⟨Ab, cb, rfl, _, hsb, hlb⟩ := hob.strs
    have HSA5 := Lib.hid (hsa.below hb5)
    have HOB5 := Lib.hid hob
    have hbase := B5.out.size
    have HL1 : Hid ([x].length + (2 * k - 1) ≤ 4294967296) := by rw [Hid, List.length_singleton]; omega
    rw [HTBL.out]
    have HSEP : Hid (∀ g, (Value.slice Ab tb.length cb).ownBlock = some g → w4.heap.size ≤ g) := fun g hg => (hob.lt g hg).1
    have HO4lt : Hid (∀ g, (Value.slice A4 1 c4).ownBlock = some g → g < w4.heap.size) := fun g hg => (O4.lt g hg).2
    clear hb5 hob hsa hsb hlb HCB O4
    go_wp2_with (first
      | (at_builtin
         refine wpList_strs rfl (.tmp 40) (.tmp 41) 22 rfl Tryz.underlying22 HI.out.1 HI.out.2.1 HI.out.2.2.1 HI.out.2.2.2 rfl rfl O5.out Aa (2 * k - 1) ca ta rfl HTAL.out HSA5.out HL1.out hbase ?_
         intro v6 w6 o6 m6
         have B6 : Hid (Below w.heap.size w w6) := B5.out.trans (m6.only.toBelow B5.out.size (fun b hb e => by have := (O5.out.lt b e).1; omega))
         have hob6 := HOB5.out.only StR.fr m6.only (fun x hx _ e => by have := HO4lt.out x e; omega)
         have HSB6 := Lib.hid (SL.strs_src hob6)
         have O6 := Lib.hid o6
         have hbase6 := B6.out.size
         have HL2 : Hid (([x] ++ ta).length + (2 * (n - k) - 1) ≤ 4294967296) := by rw [Hid, List.length_append, List.length_singleton, HTAL.out]; omega
         clear o6 m6 hob6)
      | (at_builtin
         refine wpList_strs rfl (.tmp 43) (.tmp 44) 22 rfl Tryz.underlying22 HI.out.1 HI.out.2.1 HI.out.2.2.1 HI.out.2.2.2 rfl rfl O6.out Ab (2 * (n - k) - 1) cb tb rfl HTBL.out HSB6.out HL2.out hbase6 ?_
         intro v7 w7 o7 m7
         have B7 : Hid (Below w.heap.size w w7) := B6.out.trans (m7.only.toBelow B6.out.size (fun b hb e => by have := (O6.out.lt b e).1; omega))
         have O7 := Lib.hid o7
         clear o7 m7)
      | fail)
    go_ret
    refine ⟨_, rfl, ?_, B7.out⟩
    rw [HTT.out]
    exact O7.out
theorem textsR_any (N : Nat) : ∀ (n : Nat) (ls : List (List UInt8)) (A : Option Addr) (cap : Nat) (w : World), n < N → ls.length = n → StrSrc w A ls → n ≤ cap → n ≤ 1048576 → (∀ l ∈ ls, l.length ≤ 1000000) → Calls Tryz.prog 42 #[.slice A n cap] w (StrsPost w (Pl.ttexts ls)) := by
  induction N with
  | zero => intro n ls A cap w h; omega
  | succ N ih =>
    intro n ls A cap w hN hn hs hc hm hE
    by_cases h0 : n = 0
    · subst h0
      obtain rfl := List.eq_nil_of_length_eq_zero hn
      exact textsR_nil A cap w
    · by_cases h1 : n = 1
      · subst h1
        obtain ⟨l, rfl⟩ := List.length_eq_one_iff.1 hn
        exact textsR_one l A cap w hs (hE l (by simp))
      · exact textsR_step n ls A cap w hn (by omega) hs hc hm hE (fun n' ls' A' cap' w' h1 h2 h3 h4 h5 => ih n' ls' A' cap' w' (by omega) h2 h3 h4 (by omega) h5)
end Go.Proofs.YtljmklohgpaopaaGreatDoor

namespace Go.Proofs.YtljmklohgpaopaaGreatDoor
open Go.RowKit

/-- What the first closure keeps: a list of what it was handed. -/
def J1 (B : Nat) (W : World) (done : List (List UInt8)) : Prop := ∃ v, Blk W B 23 [v] ∧ BL W (B + 1) v done
set_option maxHeartbeats 1000000 in
theorem taker1 (B : Nat) : Taker 151 #[.pointer (some ⟨B, 0, none⟩)] B (J1 B) := by
  refine ⟨fun x W => by kernel_rfl, fun W W' done ⟨v, h1, h2⟩ hb => ⟨v, h1.below hb h1.lt, h2.below SlR.fr hb⟩, ?_⟩
  rintro W0 W A n cap l done ⟨v, h1, h2⟩ hB hb hn hnc hm hby hp hd _
  obtain ⟨i0, hi0, hz0, hz1, hz2⟩ := info_parts Tryz.infoSlice
  have h1' := h1.below hb h1.lt
  have h2' := h2.below SlR.fr hb
  have c0 := h1'.cell 0
  have f0 := h1'.frozen 0
  simp only [List.getElem?_cons_zero] at c0
  have hBs : B + 1 ≤ W0.heap.size := h1.lt
  obtain ⟨w1, hw1⟩ : ∃ w1, W.alloc (.cells #[.slice A n cap] 25) = w1 := ⟨_, rfl⟩
  have hb1 : Below W.heap.size W w1 := by rw [← hw1]; exact (Below.refl _ _).alloc (Nat.le_refl _) _
  have S1 : Hid (Src w1 (some ⟨W.heap.size, 0, none⟩) [.slice A n cap]) := Src.of_blk (t := 25) (by rw [← hw1]; exact Blk.new W 25 _)
  have O1 := Lib.hid (h2'.below SlR.fr hb1)
  have R1 : Hid (SlR w1 (fun b => B + 1 ≤ b ∧ b < w1.heap.size ∧ v.ownBlock ≠ some b) [.slice A n cap] l) := by
    subst hn
    exact ⟨A, cap, rfl, hnc, hm, (Only.of_below hb1 (fun _ => False)).bytes hby (fun _ _ h => h), fun p hp' => ⟨by have := (hp p hp').1; omega, Nat.lt_of_lt_of_le (hp p hp').2 hb1.size, fun e => by have := (h2.lt _ e).2; have := (hp p hp').1; omega⟩⟩
  have K1 := Lib.hid (h1'.below hb1 h1'.lt)
  have L1 := Lib.hid (show done.length ≤ 4294967296 by omega)
  have HB1 := Lib.hid (show B + 1 ≤ w1.heap.size from Nat.le_trans (Nat.le_trans hBs hb.size) hb1.size)
  have HBW := Lib.hid (hb1.mono (show B ≤ W.heap.size by have := hb.size; omega))
  have HNB := Lib.hid (show v.ownBlock ≠ some B from fun e => by have := (h2.lt _ e).1; omega)
  have HI := Lib.hid (And.intro hi0 (And.intro hz0 (And.intro hz1 hz2)))
  clear h1 h2 h1' h2' hb hby hp hb1 hm hn hi0 hz0 hz1 hz2
  go_enter Tryz.func151, Tryz.ntmps151
  go_wp2_with (first
    | (at_builtin
       refine wpList_ol (v := v) SlR.fr rfl (.tmp 3) (.tmp 5) 23 rfl Tryz.underlying23 HI.out.1 HI.out.2.1 HI.out.2.2.1 HI.out.2.2.2 rfl (by decide) rfl O1.out (some ⟨W.heap.size, 0, none⟩) 1 [.slice A n cap] l rfl rfl S1.out (by simp; rfl) R1.out L1.out (by decide) HB1.out ?_
       intro v5 w5 o5 m5
       have O5 := Lib.hid o5
       have K5 := Lib.hid (m5.only.blk K1.out HNB.out)
       have B5 : Hid (Below B W w5) := HBW.out.trans (m5.only.toBelow (by have := HB1.out; omega) (fun b hb e => by have := (O1.out.lt b e).1; omega))
       obtain ⟨A5, cap5, cs5, rfl, _⟩ := o5.src SlR.fr
       have c5 := K5.out.cell 0
       have f5 := K5.out.frozen 0
       simp only [List.getElem?_cons_zero] at c5
       clear m5 c0 f0)
    | fail)
  go_end0
  refine ⟨rfl, ⟨_, K5.out.set_ 0 _, ?_⟩, B5.out.setCell (p := ⟨B, 0, none⟩) (Nat.le_refl _) _⟩
  have O6 := O5.out
  simp only [List.length_append, List.length_singleton] at O6
  exact O6.only SlR.fr ((Only.refl (· = B) w5).setCell (p := ⟨B, 0, none⟩) (.inl rfl) _) (fun x h1 _ h2 => by omega)

theorem parts_snoc (l m : List (List UInt8)) (t : List UInt8) : Pl.parts l (m ++ [t]) = match Pl.parts l m with
    | some z => some z
    | none => if m.length < l.length ∧ l[m.length]? ≠ some t then (l[m.length]?).map fun a => (a, t) else none := by
  induction m generalizing l with
  | nil =>
    cases l with
    | nil => rfl
    | cons a r =>
      simp only [List.nil_append, Pl.parts, List.length_nil, List.length_cons, List.getElem?_cons_zero]
      by_cases h : a = t
      · subst h
        cases r <;> simp [Pl.parts]
      · simp [h, Pl.parts]
  | cons b m ih =>
    cases l with
    | nil => rfl
    | cons a r =>
      simp only [List.cons_append, Pl.parts]
      by_cases h : a = b
      · rw [if_pos h, if_pos h, ih]
        simp
      · rw [if_neg h, if_neg h]
/-- A text that is kept, or none. -/
def Kept (lo : Nat) (W : World) (v : Value) (o : Option (List UInt8)) : Prop := match o with
  | none => v = .slice none 0 0
  | some l => ∃ b off n cap, v = .slice (some ⟨b, off, none⟩) n cap ∧ l.length = n ∧ n ≤ cap ∧ n ≤ 140737488351232 ∧ lo ≤ b ∧ BytesAt W (some ⟨b, off, none⟩) l
/-- A block without bytes may change. -/
theorem BytesAt.off {w w' : World} {k : Nat} {A : Option Addr} {l : List UInt8} {t : TypeId} {cs : List Value} (h : BytesAt w A l) (hB : Blk w k t cs) (hcs : ∀ u ∈ cs, ∀ x, u ≠ .int .u8 x) (ho : Only (· = k) w w') : BytesAt w' A l := by
  rcases h with h | ⟨b, off, rfl, h⟩
  · exact .inl h
  · refine .inr ⟨b, off, rfl, fun i hi => ho.cell (h i hi) ?_⟩
    rintro rfl
    have := h i hi
    rw [hB.cell] at this
    exact hcs _ (List.mem_of_getElem? this) _ rfl
theorem Kept.low {lo lo' : Nat} {W : World} {v : Value} {o : Option (List UInt8)} (h : Kept lo W v o) (hl : lo' ≤ lo) : Kept lo' W v o := by
  cases o with
  | none => exact h
  | some l =>
    obtain ⟨b, off, n, cap, h1, h2, h3, h4, h5, h6⟩ := h
    exact ⟨b, off, n, cap, h1, h2, h3, h4, Nat.le_trans hl h5, h6⟩
theorem Kept.keep {lo : Nat} {W W' : World} {v : Value} {o : Option (List UInt8)} (h : Kept lo W v o) (hk : ∀ b off l, BytesAt W (some ⟨b, off, none⟩) l → BytesAt W' (some ⟨b, off, none⟩) l) : Kept lo W' v o := by
  cases o with
  | none => exact h
  | some l =>
    obtain ⟨b, off, n, cap, h1, h2, h3, h4, h5, h6⟩ := h
    exact ⟨b, off, n, cap, h1, h2, h3, h4, h5, hk b off l h6⟩
theorem Kept.slice {lo : Nat} {W : World} {v : Value} {o : Option (List UInt8)} (h : Kept lo W v o) : ∀ x, v ≠ .int .u8 x := by
  cases o with
  | none => rw [show v = _ from h]; simp
  | some l =>
    obtain ⟨b, off, n, cap, rfl, _⟩ := h
    simp

/-- What the second closure keeps. -/
def J2 (g7 g8 g9 g10 n cap : Nat) (A : Option Addr) (L1 : List (List UInt8)) (W : World) (done : List (List UInt8)) : Prop :=
  Blk W g7 23 [.slice A n cap] ∧ BR W (fun b => g7 ≤ b ∧ b < g8) A L1 ∧ Blk W g8 3 [.int .i64 (done.length : Nat)] ∧
    ∃ xv yv, Blk W g9 25 [xv] ∧ Blk W g10 25 [yv] ∧ Kept g7 W xv ((Pl.parts L1 done).map Prod.fst) ∧ Kept g7 W yv ((Pl.parts L1 done).map Prod.snd)
set_option maxHeartbeats 2000000 in
set_option maxRecDepth 100000 in
theorem taker2 (g7 g8 g9 g10 n cap : Nat) (A : Option Addr) (L1 : List (List UInt8)) (hn : L1.length = n) (hcap : n ≤ cap) (hm : n ≤ 4096) (h78 : g7 < g8) (h89 : g8 < g9) (h90 : g9 < g10) (hne : ∀ l ∈ L1, 0 < l.length) (hl0 : ∀ l ∈ L1, l.length ≤ 1000000) :
    Taker 152 #[.pointer (some ⟨g9, 0, none⟩), .pointer (some ⟨g8, 0, none⟩), .pointer (some ⟨g7, 0, none⟩), .pointer (some ⟨g10, 0, none⟩)] g8 (J2 g7 g8 g9 g10 n cap A L1) := by
  refine ⟨fun x W => by kernel_rfl, fun W W' done ⟨h1, h2, h3, xv, yv, h4, h5, h6, h7⟩ hb => ?_, ?_⟩
  · have hk : ∀ b off l, BytesAt W (some ⟨b, off, none⟩) l → BytesAt W' (some ⟨b, off, none⟩) l := fun b off l h => h.keep hb
    exact ⟨h1.below hb h1.lt, h2.only (Only.of_below hb (fun _ => False)) (fun _ _ h => h), h3.below hb h3.lt, xv, yv, h4.below hb h4.lt, h5.below hb h5.lt, h6.keep hk, h7.keep hk⟩
  rintro W0 W Ar nr capr l done ⟨h1, h2, h3, xv, yv, h4, h5, h6, h7⟩ hB hb hnr hnc hmr hby hp hd hpos
  have hk : ∀ b off l, BytesAt W0 (some ⟨b, off, none⟩) l → BytesAt W (some ⟨b, off, none⟩) l := fun b off l h => h.keep hb
  have h1' := h1.below hb h1.lt
  have h2' := h2.only (Only.of_below hb (fun _ => False)) (fun _ _ h => h)
  have h3' := h3.below hb h3.lt
  have h4' := h4.below hb h4.lt
  have h5' := h5.below hb h5.lt
  have h6' := h6.keep hk
  have h7' := h7.keep hk
  clear h1 h2 h3 h4 h5 h6 h7 hk
  have c7 := h1'.cell 0
  have c8 := h3'.cell 0
  have c9 := h4'.cell 0
  have c10 := h5'.cell 0
  have f8 := h3'.frozen 0
  have f9 := h4'.frozen 0
  have f10 := h5'.frozen 0
  simp only [List.getElem?_cons_zero] at c7 c8 c9 c10
  have hps := parts_snoc L1 done l
  obtain ⟨d, hd'⟩ : ∃ d, done.length = d := ⟨_, rfl⟩
  rw [hd'] at c8 h3' hps hd
  have HD := Lib.hid hd'
  have HPS := Lib.hid hps
  have H1 := Lib.hid h1'
  have H2 := Lib.hid h2'
  have H3 := Lib.hid h3'
  have H4 := Lib.hid h4'
  have H5 := Lib.hid h5'
  have H6 := Lib.hid h6'
  have H7 := Lib.hid h7'
  have HN := Lib.hid hn
  have HNR := Lib.hid hnr
  have HBY := Lib.hid hby
  have HNE := Lib.hid hne
  have HL0 := Lib.hid hl0
  have hfin : ∀ W', Only (· = g8) W W' → Blk W' g8 3 [.int .i64 ((d + 1 : Nat) : Int)] → Pl.parts L1 (done ++ [l]) = Pl.parts L1 done → J2 g7 g8 g9 g10 n cap A L1 W' (done ++ [l]) := fun W' ho hb8 he =>
    ⟨ho.blk H1.out (by omega), H2.out.only ho (fun b hb e => by omega), by rw [List.length_append, List.length_singleton, HD.out]; exact hb8, xv, yv, ho.blk H4.out (by omega), ho.blk H5.out (by omega), by
      rw [he]; exact H6.out.keep (fun b off l h => h.off H3.out (by simp) ho), by rw [he]; exact H7.out.keep (fun b off l h => h.off H3.out (by simp) ho)⟩
  have HFIN := Lib.hid hfin
  have hg9 : g9 ≠ g8 := by omega
  have heql : ∀ (W : World) (a : Option Addr) (n c : Nat), (binOp .eql 25 (.slice a n c) (.slice none 0 0)).run Tryz.prog W = .ok (.bool a.isNone) W := fun W a n c => Lib.run_eql_slice_nil W 25 5 a n c 0 0 Tryz.underlying25
  clear h1' h2' h3' h4' h5' h6' h7' hn hnr hby hd' hps hne hfin hl0
  cases hpp : Pl.parts L1 done with
  | some z =>
    have HPP := Lib.hid hpp
    have h6 := H6.out
    rw [hpp] at h6
    obtain ⟨xb, xo, xn, xc, rfl, _⟩ := h6
    have he : Hid (Pl.parts L1 (done ++ [l]) = Pl.parts L1 done) := by rw [Hid, HPS.out, hpp]
    clear hpp
    go_enter Tryz.func152, Tryz.ntmps152
    go_wp2_with fail
    go_end0
    exact ⟨rfl, HFIN.out _ ((Only.refl (· = g8) W).setCell (p := ⟨g8, 0, none⟩) (.inl rfl) _) (H3.out.set_ 0 _) he.out, (Below.refl g8 W).setCell (p := ⟨g8, 0, none⟩) (Nat.le_refl _) _⟩
  | none =>
    have HPP := Lib.hid hpp
    have h6 := H6.out
    have h7 := H7.out
    rw [hpp] at h6 h7
    obtain rfl : xv = _ := h6
    obtain rfl : yv = _ := h7
    by_cases hdn : d < n
    · have q1 : (d : Int) < (n : Int) := by omega
      have q2 : decide ((d : Int) < (n : Int)) = true := decide_eq_true q1
      obtain ⟨a, ha⟩ : ∃ a, L1[d]? = some a := ⟨_, List.getElem?_eq_getElem (by rw [HN.out]; exact hdn)⟩
      have hlt : 0 < a.length := HNE.out a (List.mem_of_getElem? ha)
      obtain ⟨b, off, rfl⟩ : ∃ b off, A = some ⟨b, off, none⟩ := H2.out.bb.addr (by have := HN.out; omega)
      obtain ⟨Aa, na, ca, cell, hna, hnca, hma, hba, hpa⟩ := H2.out.at_ ha
      have heq := bytesEqual_any Aa Ar a l ca capr W hba HBY.out
      rw [hna, HNR.out] at heq
      have HEQ := Lib.hid heq
      have HNA := Lib.hid hna
      have HBA := Lib.hid hba
      have HPA := Lib.hid hpa
      obtain ⟨ba, oa, rfl⟩ : ∃ b off, Aa = some ⟨b, off, none⟩ := by
        rcases hba with h | ⟨b, off, h, _⟩
        · rw [h] at hlt; simp at hlt
        · exact ⟨b, off, h⟩
      have HA := Lib.hid ha
      clear heq hna hba hpa ha hpp
      by_cases hal : a = l
      · have hbt : (a == l) = true := by rw [hal]; simp
        have he : Hid (Pl.parts L1 (done ++ [l]) = Pl.parts L1 done) := by rw [Hid, HPS.out, HPP.out]; simp only; rw [if_neg (fun h => h.2 (by rw [HA.out, hal]))]
        rw [hbt] at HEQ
        clear hbt hal
        go_enter Tryz.func152, Tryz.ntmps152
        go_wp2_with fail
        refine HEQ.out.mono ?_
        rintro e w' ⟨rfl, rfl⟩
        go_wp2_with fail
        go_end0
        exact ⟨rfl, HFIN.out _ ((Only.refl (· = g8) W).setCell (p := ⟨g8, 0, none⟩) (.inl rfl) _) (H3.out.set_ 0 _) he.out, (Below.refl g8 W).setCell (p := ⟨g8, 0, none⟩) (Nat.le_refl _) _⟩
      · have hbt : (a == l) = false := by simpa using hal
        have he : Hid (Pl.parts L1 (done ++ [l]) = some (a, l)) := by rw [Hid, HPS.out, HPP.out]; simp only; rw [if_pos ⟨by rw [HN.out]; exact hdn, by rw [HA.out]; simpa using hal⟩, HA.out]; rfl
        rw [hbt] at HEQ
        clear hbt hal
        obtain ⟨br, or_, rfl⟩ : ∃ b off, Ar = some ⟨b, off, none⟩ := by
          rcases HBY.out with h | ⟨b, off, h, _⟩
          · rw [h] at hpos; simp at hpos
          · exact ⟨b, off, h⟩
        have HPR : Hid (g7 ≤ br) := by have h9 : W0.heap.size ≤ br := (hp _ rfl).1; show g7 ≤ br; omega
        have HM := Lib.hid (And.intro hnca (And.intro hma (And.intro hnc hmr)))
        go_enter Tryz.func152, Tryz.ntmps152
        go_wp2_with fail
        refine HEQ.out.mono ?_
        rintro e w' ⟨rfl, rfl⟩
        go_wp2_with fail
        go_end0
        have o9 := (Only.refl (· = g9) W).setCell (p := ⟨g9, 0, none⟩) (.inl rfl) (.slice (some ⟨ba, oa, none⟩) na ca)
        have k9 := H4.out.set_ 0 (.slice (some ⟨ba, oa, none⟩) na ca)
        have k10 := (o9.blk H5.out (by omega)).set_ 0 (.slice (some ⟨br, or_, none⟩) nr capr)
        have o10 := (Only.refl (· = g10) (W.setCell ⟨g9, 0, none⟩ (.slice (some ⟨ba, oa, none⟩) na ca))).setCell (p := ⟨g10, 0, none⟩) (.inl rfl) (.slice (some ⟨br, or_, none⟩) nr capr)
        have k9' := o10.blk k9 (by omega)
        have k8 := o10.blk (o9.blk H3.out (by omega)) (by omega)
        have k8' := k8.set_ 0 (.int .i64 ((d + 1 : Nat) : Int))
        obtain ⟨W2, hW2⟩ : ∃ W2, (W.setCell ⟨g9, 0, none⟩ (.slice (some ⟨ba, oa, none⟩) na ca)).setCell ⟨g10, 0, none⟩ (.slice (some ⟨br, or_, none⟩) nr capr) = W2 := ⟨_, rfl⟩
        rw [hW2] at k8 k8' k9' k10 o10 ⊢
        have o8 := (Only.refl (· = g8) W2).setCell (p := ⟨g8, 0, none⟩) (.inl rfl) (.int .i64 ((d + 1 : Nat) : Int))
        have hby : ∀ A' l', BytesAt W A' l' → BytesAt (W2.setCell ⟨g8, 0, none⟩ (.int .i64 ((d + 1 : Nat) : Int))) A' l' := fun A' l' h => ((h.off H4.out (by simp) o9).off (o9.blk H5.out (by omega)) (by simp) o10).off k8 (by simp) o8
        have hall : Only (fun x => x = g9 ∨ x = g10 ∨ x = g8) W (W2.setCell ⟨g8, 0, none⟩ (.int .i64 ((d + 1 : Nat) : Int))) := ((o9.mono (fun _ _ h => .inl h)).trans o10 (fun _ _ h => .inr (.inl h))).trans o8 (fun _ _ h => .inr (.inr h))
        refine ⟨rfl, ⟨hall.blk H1.out (by omega), H2.out.only hall (fun b hb h => by omega), by rw [List.length_append, List.length_singleton, HD.out]; exact k8', _, _, o8.blk k9' (by omega), o8.blk k10 (by omega), ?_, ?_⟩, ?_⟩
        · rw [he.out]
          exact ⟨ba, oa, na, ca, rfl, HNA.out, HM.out.1, HM.out.2.1, (HPA.out _ rfl).1, hby _ _ HBA.out⟩
        · rw [he.out]
          exact ⟨br, or_, nr, capr, rfl, HNR.out, HM.out.2.2.1, HM.out.2.2.2, HPR.out, hby _ _ HBY.out⟩
        · rw [← hW2]
          exact (((Below.refl g8 W).setCell (p := ⟨g9, 0, none⟩) (by show g8 ≤ g9; omega) _).setCell (p := ⟨g10, 0, none⟩) (by show g8 ≤ g10; omega) _).setCell (p := ⟨g8, 0, none⟩) (Nat.le_refl _) _
    · have q1 : ¬ (d : Int) < (n : Int) := by omega
      have q2 : decide ((d : Int) < (n : Int)) = false := decide_eq_false q1
      have he : Hid (Pl.parts L1 (done ++ [l]) = Pl.parts L1 done) := by rw [Hid, HPS.out, hpp]; simp only; rw [if_neg (fun h => by have := HN.out; omega)]
      clear hpp
      go_enter Tryz.func152, Tryz.ntmps152
      go_wp2_with fail
      go_end0
      exact ⟨rfl, HFIN.out _ ((Only.refl (· = g8) W).setCell (p := ⟨g8, 0, none⟩) (.inl rfl) _) (H3.out.set_ 0 _) he.out, (Below.refl g8 W).setCell (p := ⟨g8, 0, none⟩) (Nat.le_refl _) _⟩
end Go.Proofs.YtljmklohgpaopaaGreatDoor
