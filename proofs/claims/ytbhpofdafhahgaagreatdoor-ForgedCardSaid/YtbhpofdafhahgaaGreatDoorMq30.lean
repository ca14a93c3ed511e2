/- THE LAW: for every input the call returns true, and what came in reads as it read. The two package-level variables that the row lists are tied to the program's text. -/
import Derived.Test.YtbhpofdafhahgaaGreatDoorTie
import Derived.SevenTiedAt
import Derived.Test.YtbhpofdafhahgaaGreatDoorMq28
import Derived.Test.YtbhpofdafhahgaaGreatDoorMq29
set_option linter.all false
set_option maxHeartbeats 8000000
set_option maxRecDepth 100000
namespace Go.Proofs.YtbhpofdafhahgaaGreatDoor
open Go.ChangeShapes Go.WideShapes Go.ChangeAt Go.RowKit
theorem Gw(H:Type)(enc:TypeId×Value->H)(W:World)(aq:Nat)(args:Array Value)(ds gs:List (DataW H))(before:List MemPlace)
 (hval:∀(j:Nat) t v,Tryz.f5.params[j]?=some t->args[j]?=some v->Value.okWide Tryz.prog W .any aq t v)
 (hW:DataW.Whole enc Tryz.prog Tryz.f5.params.toList Rows.forgedSpec.vars false W args.toList ds gs before)
 (hG:GE W) (hE:pz W):
 bG 5 args W λe W'=>∃v,e= .returned v/\Rows.forgedSpec.post enc Tryz.prog Tryz.f5 false true false false W args v W':=by
 have hW':=hW;obtain⟨p,q,hA0,hV,rfl,hfz,hnd⟩:=hW;have hA:DataW.TrodAll enc Tryz.prog W 0 (λ_=>true) true Tryz.f5.params.toList args.toList ds p:=hA0;have hlt:∀x∈p,x.block<W.heap.size:=λx hx=>hW'.lt x (by simp[hx]);have Dt:∀t∈Tryz.f5.params.toList,Tryz.prog.readableRec t=true/\t<Tryz.prog.types.size:=by rw[Tryz.params5];intro t ht;simp only[cV,je,iU]at ht;rcases ht with rfl|rfl|rfl<;>exact⟨zp,jd zp⟩
 have alT:=λW' (hb:Below W.heap.size W W')=>Ma (H:=H) (enc:=enc) laidOut hb _ _ _ _ Dt hA hlt;rw[Tryz.params5]at hA hval;obtain⟨v0,vs0,d0,ds0,p0,q0,atp,rfl,rfl,h0,Uk⟩:=trodAll_cons hA;obtain⟨v1,vs1,d1,ds1,p1,q1,rfl,rfl,rfl,h1,Kd⟩:=trodAll_cons Uk;obtain⟨v2,vs2,d2,ds2,p2,q2,rfl,rfl,rfl,h2,hA3⟩:=trodAll_cons Kd;obtain⟨rfl,rfl,rfl⟩:=trodAll_nil hA3;obtain⟨rfl,rfl⟩:=trodVars_none hV;obtain rfl:args= #[v0,v1,v2]:=by cases args;simp_all
 obtain⟨s0,rfl,rfl,rfl,Fl⟩:=Go.ChangeMaps.open_string Tryz.underlying9 (hval 0 9 v0 rfl rfl) h0;obtain⟨n1,rfl,rfl,rfl,wn1⟩:=open_int Tryz.underlying3 (hval 1 3 v1 rfl rfl) h1;obtain⟨n2,rfl,rfl,rfl,wn2⟩:=open_int Tryz.underlying3 (hval 2 3 v2 rfl rfl) h2;have key:∀n:Int,(Lit.int .i64 n).wf=true-> -9223372036854775808<=n/\n<=9223372036854775807:=λn h=>by simp only[Lit.wf,IntKind.min,IntKind.max,IntKind.signed,IntKind.bits,oX,qF,if_true]at h;omega
 refine(Qs s0 n1 n2 W hG hE (key _ wn1) (key _ wn2) (by have:=Fl;simpa [maxLen] using this)).mono λe W' ⟨he,bel⟩=>?_;subst he;exact⟨_,rfl,_,_,_,[],_,[],hW',trodAll_mk1 (shut_bool Tryz.underlying4 _),alT W' bel,rfl,bel.frame _,λh=>by cases h⟩
theorem NA(os:Os){H:Type}(enc:TypeId×Value->H):∃ds places,DataW.whole enc Tryz.prog ((Cu os).forCall (λ_ _=>0) ⟨#[],#[.string ⟨#[]⟩,.int .i64 0,.int .i64 0],[]⟩).memory Tryz.f5.params.toList Rows.forgedSpec.vars false (#[.string ⟨#[]⟩,.int .i64 0,.int .i64 0]:Array Value).toList 8=some (ds,[],places):=
 ⟨[.lit (.string []),.lit (.int .i64 0),.lit (.int .i64 0)],[],zp⟩
theorem KE(os:Os)(started:os.Started)(H:Type)(enc:TypeId×Value->H)(F:Stop.Interp):
 ReturnsInHanded {} Tryz.checked os 5 .any ((OpenSpec.ofChange Rows.forgedSpec).preRow enc Tryz.prog Tryz.f5 Rows.forgedRow.domain false Rows.forgedRow.laid) (((OpenSpec.ofChange Rows.forgedSpec).at F).post enc Tryz.prog Tryz.f5 false true false false):=by
 obtain⟨ds,places,hx⟩:=NA os enc
 refine returnsInHanded_of_row (C:=Tryz.checked) (s:=OpenSpec.ofChange Rows.forgedSpec) own started zp Tryz.func5
  (witness_row_at (enc:=enc) (C:=Tryz.checked) false (Cu os) #[.string ⟨#[]⟩,.int .i64 0,.int .i64 0] rfl zp zp zp
    (OpenSpec.preRow_of_cond 8 hx zp (λk hk=>by cases hk) zp (Jf os _))) ?_
 intro W aq args ds gs before hval hW _ _ _ hL _ _;exact Gw H enc W aq args ds gs before hval hW (Ej hL).1 (Ej hL).2
theorem RH:Rows.ForgedSaid:=
 OpenClaim.holds_of_cond 5 Tryz.f5 rfl rfl rfl rfl rfl rfl rfl ⟨rfl,rfl,rfl,rfl,rfl⟩ rfl rfl rfl rfl rfl zp Tryz.func5 KG
  (jd zp) (by unfold Func.isWrapper;first|(rw[ah (by decide+kernel)];kernel_rfl)|(rw[aj (by decide+kernel)];exact⟨rfl,rfl⟩))
  (λos started H enc _ F=>by rw[OpenClaim.pre_eq_preRow];exact KE os started H enc F)
theorem NY(f:FuncId)(fn:Func)(hf:Tryz.pinned.checked.prog.funcNamed Rows.forgedRow.func=some f)(hfn:Tryz.pinned.checked.prog.funcs[f]?=some fn):
 true=Tryz.pinned.checked.prog.looks []/\∀(j:Nat) t,fn.params[j]?=some t->Tryz.pinned.checked.prog.wantsStandIn t=false:=by
 obtain rfl:f=5:=fB ((show Tryz.prog.funcNamed Rows.forgedRow.func=some 5 by kernel_rfl).symm.trans hf)|>.symm;obtain rfl:fn=Tryz.f5:=(fB (Tryz.func5.symm.trans hfn)).symm;refine⟨zp,λj t ht=>?_⟩;rw[Tryz.params5]at ht;have fj:∀t∈([9,3,3]:List TypeId),Tryz.pinned.checked.prog.wantsStandIn t=false:=by intro t ht;simp only[cV,je,iU]at ht;rcases ht with rfl|rfl|rfl<;>kernel_rfl
 exact fj t (by simpa using Array.mem_of_getElem? ht)
theorem forged_card:Rows.ForgedCardSaid:=
 Claim7.holds_tied_plain_at .later [] _ _ _ _ RH (λ_ h=>by cases h) zp (λ_ h=>by cases h) forged_row_tie rfl ⟨rfl,rfl⟩ zp rfl NY zp
#print axioms forged_card
end Go.Proofs.YtbhpofdafhahgaaGreatDoor
