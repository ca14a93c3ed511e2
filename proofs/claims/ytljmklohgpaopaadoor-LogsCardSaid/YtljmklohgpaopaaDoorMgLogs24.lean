/- THE LAW Logs: for every input the call returns true, and what came in reads as it read. The one package-level variable that the row lists is tied to the program's text. Ahead of it stand: What the rows over scripts share: a slice of moves among the arguments, opened. -/
import Derived.Test.YtljmklohgpaopaaDoorMgLogs3
import Derived.Test.YtljmklohgpaopaaDoorMgLogs23
import Derived.Test.YtljmklohgpaopaaDoorCards
import Derived.Test.YtljmklohgpaopaaDoorTie
import Derived.SevenTiedAt

namespace Go.Proofs.YtljmklohgpaopaaDoor
open Go.ChangeShapes Go.WideShapes Go.ChangeAt Go.RowKit Go.Deep
set_option linter.unusedVariables false

section
variable {H : Type} {enc : TypeId × Value → H} {P : Program} {W W' : World}
theorem sized_inner {ts : List TypeId} {ds : List (DataW H)} (h : (DataW.weightsEach P ts ds).all (· ≤ reachBytes) = true) {j : Nat} {t e : TypeId} {elems spare : List (DataW H)} {d : DataW H} {n : Nat}
    (ht : ts[j]? = some t) (hd : ds[j]? = some (.slice elems spare)) (hu : P.underlying t = some (.slice e)) (hx : d ∈ elems) (hn : n ∈ d.weights P e) : n ≤ reachBytes := by
  refine of_decide_eq_true (List.all_eq_true.1 h _ (DataW.weights_mem_each ht hd _ ?_))
  simp only [DataW.weights, hu, List.mem_cons, List.mem_append]
  exact Or.inr (Or.inl (weightsAll_mem hx _ hn))

/-- A slice of moves among the arguments, opened. -/
theorem open_moves {ts : List TypeId} {ds : List (DataW H)} (hsz : (DataW.weightsEach P ts ds).all (· ≤ reachBytes) = true) {j : Nat} {t e : TypeId} {f0 f1 f2 f3 : Field} {v : Value} {d : DataW H} {p : List MemPlace} {base : Nat}
    (hu : P.underlying t = some (.slice e)) (he : P.underlying e = some (.struct #[f0, f1, f2, f3])) (ce : P.cellsOf e = 4) (hby : P.bytesOf e = 48) (ho : f0.offset = 0 ∧ f1.offset = 1 ∧ f2.offset = 2 ∧ f3.offset = 3)
    (hc : P.cellsOf f0.type = 1 ∧ P.cellsOf f1.type = 1 ∧ P.cellsOf f2.type = 1 ∧ P.cellsOf f3.type = 1) (ht : P.underlying f0.type = some (.int .i64) ∧ P.underlying f1.type = some (.int .i64) ∧ P.underlying f2.type = some .string ∧ P.underlying f3.type = some .string)
    (hval : Value.okWide P W .any base t v) (hd : DataW.Trod enc P W 0 (fun _ => true) true t v d p) (hj : ts[j]? = some t) (hdj : ds[j]? = some d) :
    ∃ A cap ms, v = .slice A ms.length cap ∧ Moves W A ms ∧ ms.length ≤ 140737488351232 ∧ ∀ m ∈ ms, MoveOk m := by
  obtain ⟨a0, len, cap, rfl⟩ := okWide_slice hu hval
  obtain ⟨fuel, hf⟩ := hd
  rcases open_slice hu hf with ⟨hcs, hx⟩ | ⟨a, len', cap', m, n, D, Pl, hcs, _, hl, hm, hmm, hx, hcell⟩
  · have : a0 = none ∧ len = 0 ∧ cap = 0 := by simpa [Value.cells] using hcs
    obtain ⟨rfl, rfl, rfl⟩ := this
    exact ⟨none, 0, [], rfl, .inl rfl, by simp, by simp⟩
  · have : a0 = some a ∧ len = len' ∧ cap = cap' := by simpa [Value.cells] using hcs
    obtain ⟨rfl, rfl, rfl⟩ := this
    simp only [if_true] at hmm
    subst hmm
    have hd' : d = _ := congrArg Prod.fst hx
    have each : ∀ i, i < len → ∃ q : Int × Int × ByteArray × ByteArray, (W.cell? (a.add (i * 4)) = some (.int .i64 q.1) ∧ W.cell? (a.add (i * 4 + 1)) = some (.int .i64 q.2.1) ∧ W.cell? (a.add (i * 4 + 2)) = some (.string q.2.2.1) ∧ W.cell? (a.add (i * 4 + 3)) = some (.string q.2.2.2)) ∧
        D i = .agg [.lit (.int .i64 q.1), .lit (.int .i64 q.2.1), .lit (.string q.2.2.1.data.toList), .lit (.string q.2.2.2.data.toList)] := by
      intro i hi
      obtain ⟨cs', h1, h2⟩ := hcell i (by omega)
      rw [ce] at h1
      obtain ⟨_, hlen, hcl⟩ := World.cells?_some h1
      obtain ⟨xs, k, hk, hxy, _, hxl, hff⟩ := DataW.trod_struct he h2
      match xs, hxl, cs', hlen with
      | [y0, y1, y2, y3], _, [v0, v1, v2, v3], _ =>
        have g0 := hff 0 f0 rfl
        have g1 := hff 1 f1 rfl
        have g2 := hff 2 f2 rfl
        have g3 := hff 3 f3 rfl
        simp [ho.1, ho.2.1, ho.2.2.1, ho.2.2.2, hc.1, hc.2.1, hc.2.2.1, hc.2.2.2] at g0 g1 g2 g3
        obtain ⟨n0, hv0, rfl, _⟩ := DataW.trod_int ht.1 g0
        obtain ⟨n1, hv1, rfl, _⟩ := DataW.trod_int ht.2.1 g1
        obtain ⟨s2, hv2, rfl, _⟩ := DataW.trod_string ht.2.2.1 g2
        obtain ⟨s3, hv3, rfl, _⟩ := DataW.trod_string ht.2.2.2 g3
        have e0 := hcl 0 (by omega)
        have e1 := hcl 1 (by omega)
        have e2 := hcl 2 (by omega)
        have e3 := hcl 3 (by omega)
        rw [add_add] at e0 e1 e2 e3
        simp only [Prod.mk.injEq] at hxy
        simp only [List.cons.injEq, and_true] at hv0 hv1 hv2 hv3
        refine ⟨(n0, n1, s2, s3), ⟨by simpa [hv0] using e0, by simpa [hv1] using e1, by simpa [hv2] using e2, by simpa [hv3] using e3⟩, by simpa using hxy.1⟩
    obtain ⟨q, hq⟩ := choose_lt each
    refine ⟨some a, m, (List.range len).map q, by simp, ?_, ?_, ?_⟩
    · by_cases h0 : len = 0
      · left; subst h0; rfl
      · have hc0 := (hq 0 (by omega)).1.1
        have ha : a = ⟨a.block, a.off, none⟩ := by
          cases a with
          | mk bk of sp =>
            have h1 : (⟨bk, of, sp⟩ : Addr).add (0 * 4) = ⟨bk, of, sp⟩ := rfl
            rw [h1] at hc0
            rw [spot_none hc0]
        refine .inr ⟨a.block, a.off, by rw [← ha], fun i m hm => ?_⟩
        simp only [List.getElem?_map, Option.map_eq_some_iff] at hm
        obtain ⟨i', hi', rfl⟩ := hm
        have hi : i < len := by
          rcases Nat.lt_or_ge i len with h' | h'
          · exact h'
          · rw [List.getElem?_eq_none (by simpa using h')] at hi'; cases hi'
        have hii : i' = i := by
          rw [List.getElem?_range hi] at hi'
          exact (Option.some.inj hi').symm
        subst hii
        have := (hq i' hi).1
        rw [ha] at this
        simp only [addr_add] at this
        exact this
    · have := sized_slice hsz hj (by rw [hdj, hd']) hu
      rw [hby] at this
      simp only [List.length_map, List.length_range, reachBytes] at this ⊢
      omega
    · intro m hm
      simp only [List.mem_map, List.mem_range] at hm
      obtain ⟨i, hi, rfl⟩ := hm
      have h1 : (q i).2.2.1.data.toList.length ∈ (D i).weights P e := by
        rw [(hq i hi).2]
        simp [DataW.weights, DataW.weightsEach, he]
      have := sized_inner hsz hj (by rw [hdj, hd']) hu (d := D i) (by simp only [List.mem_map, List.mem_range]; exact ⟨i, hi, rfl⟩) h1
      simpa [MoveOk, reachBytes] using this
end
end Go.Proofs.YtljmklohgpaopaaDoor

namespace Go.Proofs.YtljmklohgpaopaaDoor
open Go.ChangeShapes Go.WideShapes Go.ChangeAt Go.RowKit
open Go.ChangeMaps (open_string)
set_option linter.unusedVariables false

set_option maxRecDepth 100000 in
theorem logs_contract (H : Type) (enc : TypeId × Value → H) (W : World) (base : Nat) (args : Array Value) (ds gs : List (DataW H)) (before : List MemPlace)
    (hval : ∀ (j : Nat) t v, Tryd.f4.params[j]? = some t → args[j]? = some v → Value.okWide Tryd.prog W .any base t v)
    (hW : DataW.Whole enc Tryd.prog Tryd.f4.params.toList Rows.logsSpec.vars false W args.toList ds gs before)
    (hsz : (DataW.weightsEach Tryd.prog (Tryd.f4.params.toList ++ (OpenSpec.ofChange Rows.logsSpec).bare.plain.varTypes Tryd.prog) (ds ++ gs)).all (· ≤ reachBytes) = true) (hG : GE W) :
    Calls Tryd.prog 4 args W fun e W' => ∃ v, e = .returned v ∧ Rows.logsSpec.post enc Tryd.prog Tryd.f4 false true false false W args v W' := by
  have hW' := hW
  obtain ⟨p, q, hA0, hV, rfl, hfz, hnd⟩ := hW
  have hA : DataW.TrodAll enc Tryd.prog W 0 (fun _ => true) true Tryd.f4.params.toList args.toList ds p := hA0
  have hlt : ∀ x ∈ p, x.block < W.heap.size := fun x hx => hW'.lt x (by simp [hx])
  have hrd : ∀ t ∈ Tryd.f4.params.toList, Tryd.prog.readableRec t = true ∧ t < Tryd.prog.types.size := by
    rw [Tryd.params4]
    intro t ht
    simp only [List.mem_cons, List.not_mem_nil, or_false] at ht
    rcases ht with rfl | rfl | rfl | rfl <;> exact ⟨by kernel_rfl, of_decide_eq_true (by kernel_rfl)⟩
  have hstay := fun W' (hb : Below W.heap.size W W') => args_stay (H := H) (enc := enc) laidOut hb _ _ _ _ hrd hA hlt
  rw [Tryd.params4] at hA hval hsz
  obtain ⟨v0, vs0, d0, ds0, p0, q0, hargs, rfl, rfl, h0, hA1⟩ := trodAll_cons hA
  obtain ⟨v1, vs1, d1, ds1, p1, q1, rfl, rfl, rfl, h1, hA2⟩ := trodAll_cons hA1
  obtain ⟨v2, vs2, d2, ds2, p2, q2, rfl, rfl, rfl, h2, hA3⟩ := trodAll_cons hA2
  obtain ⟨v3, vs3, d3, ds3, p3, q3, rfl, rfl, rfl, h3, hA4⟩ := trodAll_cons hA3
  obtain ⟨rfl, rfl, rfl⟩ := trodAll_nil hA4
  obtain ⟨rfl, rfl⟩ := trodVars_none hV
  obtain rfl : args = #[v0, v1, v2, v3] := by cases args; simp_all
  obtain ⟨n0, rfl, rfl, rfl, wn0⟩ := open_int Tryd.underlying3 (hval 0 3 v0 rfl rfl) h0
  obtain ⟨n1, rfl, rfl, rfl, wn1⟩ := open_int Tryd.underlying3 (hval 1 3 v1 rfl rfl) h1
  obtain ⟨n2, rfl, rfl, rfl, wn2⟩ := open_int Tryd.underlying3 (hval 2 3 v2 rfl rfl) h2
  obtain ⟨A, cap, ms, rfl, hM, hlen, hms⟩ := open_moves hsz (j := 3) Tryd.underlying36 Tryd.underlying57 (by kernel_rfl) (by kernel_rfl) ⟨rfl, rfl, rfl, rfl⟩ ⟨by kernel_rfl, by kernel_rfl, by kernel_rfl, by kernel_rfl⟩ ⟨by kernel_rfl, by kernel_rfl, by kernel_rfl, by kernel_rfl⟩ (hval 3 36 v3 rfl rfl) h3 rfl rfl
  refine (logs_any n0 n1 n2 A cap ms W hG hM hms hlen).mono fun e W' ⟨he, bel⟩ => ?_
  subst he
  exact ⟨_, rfl, _, _, _, [], _, [], hW', trodAll_mk1 (shut_bool Tryd.underlying4 _), hstay W' bel, rfl, bel.frame _, fun h => by cases h⟩

theorem logs_reads (os : Os) {H : Type} (enc : TypeId × Value → H) : ∃ ds places, DataW.whole enc Tryd.prog ((laidWorld os).forCall (fun _ _ => 0) ⟨#[], #[.int .i64 0, .int .i64 0, .int .i64 0, .slice none 0 0], []⟩).memory Tryd.f4.params.toList Rows.logsSpec.vars false (#[.int .i64 0, .int .i64 0, .int .i64 0, .slice none 0 0] : Array Value).toList 8 = some (ds, [], places) :=
  ⟨[.lit (.int .i64 0), .lit (.int .i64 0), .lit (.int .i64 0), .nil], [], by kernel_rfl⟩

set_option maxRecDepth 100000 in
theorem logs_lifted (os : Os) (started : os.Started) (H : Type) (enc : TypeId × Value → H) (F : Stop.Interp) :
    ReturnsInHanded {} Tryd.checked os 4 .any ((OpenSpec.ofChange Rows.logsSpec).preRow enc Tryd.prog Tryd.f4 Rows.logsRow.domain false Rows.logsRow.laid) (((OpenSpec.ofChange Rows.logsSpec).at F).post enc Tryd.prog Tryd.f4 false true false false) := by
  obtain ⟨ds, places, hx⟩ := logs_reads os enc
  refine returnsInHanded_of_row (C := Tryd.checked) (s := OpenSpec.ofChange Rows.logsSpec) own started (by kernel_rfl) Tryd.func4
    (witness_row_at (enc := enc) (C := Tryd.checked) false (laidWorld os) #[.int .i64 0, .int .i64 0, .int .i64 0, .slice none 0 0] rfl (by kernel_rfl) (by kernel_rfl) (by kernel_rfl)
      (OpenSpec.preRow_of_cond 8 hx (by kernel_rfl) (fun k hk => by cases hk) (by kernel_rfl) (laidWorld_met os _))) ?_
  intro W base args ds gs before hval hW _ _ hsz hL _ _
  exact logs_contract H enc W base args ds gs before hval hW hsz (ge_of_laid hL)

theorem logs_said : Rows.LogsSaid :=
  OpenClaim.holds_of_cond 4 Tryd.f4 rfl rfl rfl rfl rfl rfl rfl ⟨rfl, rfl, rfl, rfl, rfl⟩ rfl rfl rfl rfl rfl (by kernel_rfl) Tryd.func4 (by kernel_rfl)
    (of_decide_eq_true (by kernel_rfl)) (by unfold Func.isWrapper; first | (rw [if_pos (by decide +kernel)]; kernel_rfl) | (rw [if_neg (by decide +kernel)]; exact ⟨rfl, rfl⟩))
    (fun os started H enc _ F => by rw [OpenClaim.pre_eq_preRow]; exact logs_lifted os started H enc F)

theorem logs_plain (f : FuncId) (fn : Func) (hf : Tryd.pinned.checked.prog.funcNamed "daybook/daybooklaw.Logs" = some f) (hfn : Tryd.pinned.checked.prog.funcs[f]? = some fn) :
    true = Tryd.pinned.checked.prog.looks [] ∧ ∀ (j : Nat) t, fn.params[j]? = some t → Tryd.pinned.checked.prog.wantsStandIn t = false := by
  obtain rfl : f = 4 := Option.some.inj ((show Tryd.prog.funcNamed "daybook/daybooklaw.Logs" = some 4 by kernel_rfl).symm.trans hf) |>.symm
  obtain rfl : fn = Tryd.f4 := (Option.some.inj (Tryd.func4.symm.trans hfn)).symm
  refine ⟨by kernel_rfl, fun j t ht => ?_⟩
  rw [Tryd.params4] at ht
  have hall : ∀ t ∈ ([3, 3, 3, 36] : List TypeId), Tryd.pinned.checked.prog.wantsStandIn t = false := by
    intro t ht
    simp only [List.mem_cons, List.not_mem_nil, or_false] at ht
    rcases ht with rfl | rfl | rfl | rfl <;> kernel_rfl
  exact hall t (by simpa using Array.mem_of_getElem? ht)

theorem logs_card : Rows.LogsCardSaid :=
  Claim7.holds_tied_plain_at .later [] _ _ _ _ logs_said (fun _ h => by cases h) (by kernel_rfl) (fun _ h => by cases h) logs_row_tie rfl ⟨rfl, rfl⟩ (by kernel_rfl) rfl logs_plain (by kernel_rfl)
#print axioms logs_card
end Go.Proofs.YtljmklohgpaopaaDoor
