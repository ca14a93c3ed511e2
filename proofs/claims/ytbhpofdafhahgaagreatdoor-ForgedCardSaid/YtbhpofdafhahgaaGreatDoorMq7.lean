/- Part 7: Ord CodecJ OrdB OrdT CodecK CodecL CodecM PgA. -/
import Derived.OrdersHeld
import Derived.Deep.RegionHeld
import Derived.Test.YtbhpofdafhahgaaGreatDoorMq6
set_option linter.all false
set_option maxHeartbeats 8000000
set_option maxRecDepth 100000
namespace Go.Proofs.YtbhpofdafhahgaaGreatDoor
open Go
section
variable {P:Program} {ops:Array Oper} {Q:Exit->Act->World->Prop} {md:Region.Mode} {S:Array Bool->World->Prop} {C D:World->Prop} {m:Nat}
variable {i fuel:Nat} {oi:Oper} {v:Value} {listed:Array Bool} {a:Act} {w:World} {rs:List Nat}
def He(P:Program)(md:Region.Mode)(ops:Array Oper)(Q:Exit->Act->World->Prop)(S:Array Bool->World->Prop):Nat->Array Bool->Act->World->Prop
 |0,L,a,w=>Region.ready md ops L=[]/\Q .normal a w
 |f+1,L,a,w=>
  (Region.ready md ops L=[]->Q .normal a w)/\
  ∀i∈Region.ready md ops L,wpOp P ops Q i (λa' w'=>S (L.setIfInBounds i true) w'/\He P md ops Q S f (L.setIfInBounds i true) a' w') a w
theorem Jd:∀(f:Nat) (L:Array Bool) (a:Act) (w:World),He P md ops Q S f L a w->wpAny P md ops Q f L a w
 |0,_,_,_,h=>h
 |f+1,_,_,_,h=>⟨h.1,λi hi=>wpOp_mono (λa' w' h'=>Jd f _ a' w' h'.2) (h.2 i hi)⟩
theorem EG(hi:ops[i]?=some oi)(auf:∀(j:Nat) (o:Oper) cs b,ops[j]?=some o->o.op≠ .select cs b)
 (hQ:∀c a w,Q (.panic c) (a.put oi.dst v) w->Q (.panic c) a w) (I:Array Bool->Prop) (hI:∀L j,I L->i∈Region.ready md ops L->j∈Region.ready md ops L->j≠i->I (L.setIfInBounds j true))
 (hm:∀L w,S (L.setIfInBounds i true) w↔S L w) (T:World->Prop) (hT:∀L w,I L->S L w->T w):
 ∀(fuel:Nat) (listed:Array Bool) (a:Act) (w:World),I listed->
  (∀j oj,ops[j]?=some oj->j≠i->listed.getD j true=false->(∀e∈oj.after,Region.binds md e=true->e.on≠i)->oi.apart ops oj=true)->
  i∈Region.ready md ops listed->YieldsIf P ops T oi v a->S listed w->
  He P md ops Q S fuel (listed.setIfInBounds i true) (a.put oi.dst v) w->He P md ops Q S (fuel+1) listed a w:=by
 intro fuel
 induction fuel with
 |zero=>
  intro L a w hIL _ hr hy hS H;refine⟨λh=>(by grind),λj hj=>?_⟩;by_cases hji:j=i
  ·subst hji;exact hy.wpOp hi (by grind) (by grind)
  ·have:=ready_mono hj hji;rw[H.1]at this
   grind
 |succ fuel ih=>
  intro L a w hIL Lq hr hy hS H;refine⟨λh=>(by grind),λj hj=>?_⟩;by_cases hji:j=i
  ·subst hji;exact hy.wpOp hi (by grind) ⟨(hm L w).2 hS,H⟩
  ·have h1:=H.2 j (ready_mono hj hji);obtain⟨aqT,oj,hoj,fj⟩:=mem_ready.1 hj;have aoV:∀e∈oj.after,Region.binds md e=true->e.on≠i:=λe he hb heq=>by
    have h1:=fj e he hb;have h0:=(mem_ready.1 hr).1
    grind
   have h2:=wpOp_putIf hoj (Lq j oj hoj hji aqT aoV) (by grind) (by grind) hQ hy h1
   have ajj:∀k ok,ops[k]?=some ok->k≠i->(L.setIfInBounds j true).getD k true=false->
    (∀e∈ok.after,Region.binds md e=true->e.on≠i)->oi.apart ops ok=true:=λk ok hk hki hun hno=>by
    refine Lq k ok hk hki ?_ hno;by_cases hjk:j=k
    ·grind
    simp_all
   refine wpOp_mono (λa' w' h3=>?_) h2;have hs:S (L.setIfInBounds j true) w':=by
    have:=h3.2.1;rw[Array.setIfInBounds_comm _ _ (by omega)]at this
    grind
   refine⟨hs,ih (L.setIfInBounds j true) a' w' (by grind) ajj (ready_mono hr (by omega)) h3.1 hs ?_⟩;rw[Array.setIfInBounds_comm _ _ hji]
   grind
def waits(md:Region.Mode)(ops:Array Oper)(m i:Nat):Bool:=match ops[m]? with
 |some o=>o.after.any λe=>Region.binds md e&&e.on==i
 |none=>false
def mj(m:Nat)(C D:World->Prop)(L:Array Bool)(w:World):Prop:=(L.getD m true=false->C w)/\D w
theorem Hg(hi:ops[i]?=some oi)
 (hs:Region.noSelect ops=true) (hf:Region.free md ops listed i=true) (hr:(Region.ready md ops listed).contains i=true)
 (hw:(waits md ops m i&&!(m==i)&&!(listed.getD m true))=true)
 (hQ:∀c a w,Q (.panic c) (a.put oi.dst v) w->Q (.panic c) a w) (hy:YieldsIf P ops (λw=>C w/\D w) oi v a) (hS:mj m C D listed w)
 (h:He P md ops Q (mj m C D) fuel (listed.setIfInBounds i true) (a.put oi.dst v) w):He P md ops Q (mj m C D) (fuel+1) listed a w:=by
 simp only[Bool.and_eq_true,Bool.not_eq_true',beq_eq_false_iff_ne,ne_eq]at hw;obtain⟨⟨hw,hmi⟩,hun⟩:=hw;refine EG hi (Region.noSelect_spec hs) hQ (λL=>L.getD m true=false) ?_ (λL w=>?_) _ (λL w hL hs=>⟨hs.1 hL,hs.2⟩) fuel listed a w hun (Region.free_spec hi hf) (by grind) hy hS h
 ·intro L j hL hiL hj hji;by_cases hjm:j=m
  ·subst hjm;obtain⟨_,oj,hoj,fj⟩:=mem_ready.1 hj;unfold waits at hw;rw[hoj]at hw;obtain⟨e,he,hb⟩:=Array.any_eq_true'.1 hw;simp only[Bool.and_eq_true,beq_iff_eq]at hb;have h1:=fj e he hb.1;have h0:=(mem_ready.1 hiL).1
   grind
  simp_all
 ·unfold mj;rw[getD_set_ne true (λe=>(by omega))]
theorem ZM(hi:ops[i]?=some oi)
 (hs:Region.noSelect ops=true) (hf:Region.free md ops listed i=true) (hr:(Region.ready md ops listed).contains i=true) (hmi:(!(m==i))=true)
 (hQ:∀c a w,Q (.panic c) (a.put oi.dst v) w->Q (.panic c) a w) (hy:YieldsIf P ops D oi v a) (hS:mj m C D listed w)
 (h:He P md ops Q (mj m C D) fuel (listed.setIfInBounds i true) (a.put oi.dst v) w):He P md ops Q (mj m C D) (fuel+1) listed a w:=by
 simp only[Bool.not_eq_true',beq_eq_false_iff_ne,ne_eq]at hmi;refine EG hi (Region.noSelect_spec hs) hQ (λ_=>True) (by simp) (λL w=>?_) D (λL w _ hs=>hs.2) fuel listed a w trivial (Region.free_spec hi hf) (by grind) hy hS h;unfold mj;rw[getD_set_ne true (λe=>(by omega))]
def kX(P:Program)(md:Region.Mode)(ops:Array Oper)(Q:Exit->Act->World->Prop)(S:Array Bool->World->Prop)(fuel:Nat)(listed:Array Bool)(a:Act)(w:World)(rs:List Nat):Prop:=
 ∀i∈rs,wpOp P ops Q i (λa' w'=>S (listed.setIfInBounds i true) w'/\He P md ops Q S fuel (listed.setIfInBounds i true) a' w') a w
theorem kX.nil:kX P md ops Q S fuel listed a w []:=λ_ h=>by cases h
theorem kX.cons{o:Oper}(ho:ops[i]?=some o)
 (h:∀K':Act->World->Prop,Shut (∀a w,mj m C D (listed.setIfInBounds i true) w->(mj m C D (listed.setIfInBounds i true) w->He P md ops Q (mj m C D) fuel (listed.setIfInBounds i true) a w)->K' a w)->if Region.wanted o (yielded ops a.tmps)=true then Oper.wp P o a w K' Q else K' (a.put o.dst undef) w)
 (hs:kX P md ops Q (mj m C D) fuel listed a w rs):kX P md ops Q (mj m C D) fuel listed a w (i::rs):=λj hj=>by
 rcases List.mem_cons.1 hj with rfl|hj
 ·exact wpOp_step ho (λK' hK=>h K' (λa w hS hW=>hK a w ⟨hS,hW hS⟩))
 ·exact hs j hj
theorem j6(hr:Region.ready md ops listed=rs)(hne:rs≠ [])
 (h:kX P md ops Q S fuel listed a w rs):He P md ops Q S (fuel+1) listed a w:=⟨(by simp_all),hr▸h⟩
theorem bh(hr:Region.ready md ops listed=[])(h:Q .normal a w):∀fuel,He P md ops Q S fuel listed a w
 |0=>⟨hr,h⟩
 |_+1=>⟨λ_=>h,by rw[hr];simp⟩
theorem aN(m:Nat)(C D:World->Prop){id:Nat}(hm:P.follows .mixedOrders=true)(hC:C w.drew)(hD:D w.drew)
 (h:mj m C D (Array.replicate ops.size false) w.drew->He P .any ops Q (mj m C D) ops.size (Array.replicate ops.size false) a w.drew):(Code.region id ops true).wp P Q a w:=
 wp_region_any hm (Jd _ _ _ _ (h ⟨λ_=>hC,hD⟩))
end
open Go.RowKit
variable {c cs:List Value} {s:Nat} {w:World} {o:Pl.jb}
theorem abL(l:List UInt8):Pl.Fw l=if(l.length<8\/(l.drop 8).length<1)\/¬(1<=Pl.num ((l.drop 8).take 1)/\Pl.num ((l.drop 8).take 1)<=16)then none
 else(Pl.lA Pl.SB (Pl.num ((l.drop 8).take 1)) ((l.drop 8).drop 1)).bind λz=>if z.2=[]then some ⟨Pl.num (l.take 8),z.1⟩else none:=by
 unfold Pl.Fw;rw[zZ];by_cases h:l.length<8
 ·rw[ah h,ah zo];rfl
 ·rw[aj h];simp only[eS];rw[zZ];by_cases h1:(l.drop 8).length<1
  ·rw[ah h1,ah zo];rfl
  ·rw[aj h1];simp only[eS];by_cases h2:1<=Pl.num ((l.drop 8).take 1)/\Pl.num ((l.drop 8).take 1)<=16
   ·rw[ah h2,aj zo]
   ·rw[aj h2,ah (.inr h2)]
theorem acd{x:List UInt8}{c:Nat}(h4:x.length=4)(hc:c<256^4):(Pl.num x=c)↔x=Pl.be 4 c:=by
 constructor
 ·rintro rfl;have:=Pl.Vf x
  grind
 ·rintro rfl;exact Pl.kq 4 c hc
theorem afi{l body l1 l2 lr:List UInt8}{N:Nat}{Zu b1 b2 b3 br ok:Bool}{ops:List Pl.jb}(h4:4<=l.length)(IM:l.take (l.length-4)=body)
 (aeB:decide (Pl.num (l.drop (l.length-4))=4294967295-Pl.nM body)=Zu) (l7:body.drop 8=l1) (BJ:l1.drop 1=l2) (hN:Pl.num (l1.take 1)=N)
 (aI:(!Zu||decide (body.length<8))=b1) (bz:(b1||decide (l1.length<1))=b2) (bg:(b2||!decide (1<=N/\N<=16))=b3)
 (h1:br=(b3||(Pl.lA Pl.SB N l2).isNone)) (h2:br=false->Pl.lA Pl.SB N l2=some (ops,lr)) (gP:(!(br||!decide (lr.length=0)))=ok):
 ok=(Pl.fq l).isSome/\(ok=true->Pl.fq l=some ⟨Pl.num (body.take 8),ops⟩):=by
 have yt:∀y,4294967295-y<256^4:=λy=>by omega
 have hd:(4<=l.length/\l.drop (l.length-4)=Pl.be 4 (Pl.se (l.take (l.length-4))))↔Zu=true:=by rw[IM,<-aeB,oP,acd zw (yt _)];exact⟨λh=>h.2,λh=>⟨h4,h⟩⟩
 have he:Pl.fq l=if Zu=true then Pl.Fw body else none:=by
  unfold Pl.fq;by_cases hc:Zu=true
  ·rw[ah zw,ah hc,IM]
  ·rw[aj zS,aj hc]
 rw[he,abL,l7,BJ,hN];subst aI bz bg gP;by_cases c0:Zu=true
 ·subst c0;rw[ah rfl];by_cases c1:body.length<8
  ·simp[c1,h1]
  ·by_cases c2:l1.length<1
   ·simp[c1,c2,h1]
   ·by_cases c3:1<=N/\N<=16
    ·rw[aj zo];cases hp:Pl.lA Pl.SB N l2 with
     |none=>
      grind
     |some z=>
      grind
    ·simp[c1,c2,c3,h1]
 ·have:Zu=false:=zw;subst this;simp[h1]
def fW{α:Type}(s:Nat)(R:List Value->α->Prop)(cs:List Value)(xs:List α):Prop:=cs.length=s*xs.length/\∀k x,xs[k]?=some x->R ((cs.drop (s*k)).take s) x
theorem fW.nil{α:Type}(s:Nat)(R:List Value->α->Prop):fW s R [] []:=⟨rfl,λk x h=>by cases h⟩
theorem fW.snoc{α:Type}{R:List Value->α->Prop}{xs:List α}{x:α}(h:fW s R cs xs)(hc:c.length=s)(hx:R c x):fW s R (cs++c) (xs++ [x]):=by
 refine⟨by rw[ax,ax,h.1,hc,dy,Nat.mul_add,Nat.mul_one],λk y hk=>?_⟩;have hl:=h.1;by_cases pK:k<xs.length
 ·rw[kc pK]at hk;have hb:s*k+s<=cs.length:=by rw[hl,<-Nat.mul_succ];exact Nat.mul_le_mul_left s pK
  rw[Ip zo,ua zw];exact h.2 k y hk
 grind
theorem fW.mono{α:Type}{R R':List Value->α->Prop}{xs:List α}(h:fW s R cs xs)(hR:∀c x,x∈xs->R c x->R' c x):fW s R' cs xs:=
 ⟨h.1,λk x hk=>hR _ _ zw (h.2 k x hk)⟩
theorem fW.dm{α:Type}{s:Nat}{R:List Value->α->Prop}{cs:List Value}{xs:List α}{k:Nat}{x:α}(h:fW s R cs xs)(hk:xs[k]?=some x):
 ∃c,R c x/\c.length=s/\∀j,j<s->cs[k*s+j]?=c[j]?:=by
 refine⟨_,h.2 k x hk,?_,λj hj=>?_⟩
 ·obtain⟨hlt,_⟩:=cR.1 hk;have hb:s*k+s<=cs.length:=by rw[h.1,<-Nat.mul_succ];exact Nat.mul_le_mul_left s hlt
  grind
 grind
def OP(w:World)(P:Nat->Prop)(c:List Value)(o:Pl.jb):Prop:=
 ∃Ac cc Ar cr,c=[.int .i64 (o.kind:Nat),.string (ar o.table),.slice Ac o.aZ.length cc,.slice Ar o.row.length cr]/\o.aZ.length<=cc/\o.row.length<=cr/\
  Src w Ac (mq o.aZ)/\Src w Ar (vcs o.row)/\(∀p,Ac=some p->P p.block)/\∀p,Ar=some p->P p.block
theorem OP.only{F P:Nat->Prop}{w':World}(h:OP w P c o)(ho:ag F w w')(hF:∀b,P b->¬F b):OP w' P c o:=by obtain⟨Ac,cc,Ar,cr,h1,h2,h3,h4,h5,h6,h7⟩:=h;exact⟨Ac,cc,Ar,cr,h1,h2,h3,ho.src h4 zS,ho.src h5 zS,h6,h7⟩
theorem OP.mono{P P':Nat->Prop}(h:OP w P c o)(hP:∀b,P b->P' b):OP w P' c o:=by obtain⟨Ac,cc,Ar,cr,h1,h2,h3,h4,h5,h6,h7⟩:=h;exact⟨Ac,cc,Ar,cr,h1,h2,h3,h4,h5,λp hp=>hP _ (h6 p hp),λp hp=>hP _ (h7 p hp)⟩
theorem OpV.cells{B:Nat}{v:Value}(h:OpV w B v o):∃c:List Value,v= .agg c.toArray/\c.length=4/\OP w (λb=>B<=b/\b<w.heap.size) c o:=by
 obtain⟨va,vb,rfl,h1,h2⟩:=h;obtain⟨Ac,cc,rfl,h3,h4,h5⟩:=bJ h1;obtain⟨Ar,cr,rfl,h6,h7,h8⟩:=bJ h2;refine⟨_,rfl,rfl,Ac,cc,Ar,cr,rfl,h3,h6,h4,h7,λp hp=>?_,λp hp=>?_⟩
 ·exact h1.lt _ zw
 ·exact h2.lt _ zw
section
variable {P:Program} {ops:Array Oper} {Q:Exit->Act->World->Prop} {md:Region.Mode} {C D:World->Prop} {m:Nat}
variable {L:Array Bool} {k i:Nat}
theorem Pp(hw:waits md ops k i=true)(hi:i∈Region.ready md ops L)(hk:k∈Region.ready md ops L):False:=by
 obtain⟨_,ok,gP,fj⟩:=mem_ready.1 hk;unfold waits at hw;rw[gP]at hw;obtain⟨e,he,hb⟩:=Array.any_eq_true'.1 hw;simp only[Bool.and_eq_true,beq_iff_eq]at hb;have h1:=fj e he hb.1;have h0:=(mem_ready.1 hi).1
 grind
theorem JU(hw:waits md ops k i=true)(hi:L.getD i true=false)(hk:k∈Region.ready md ops L):False:=by
 obtain⟨_,ok,gP,fj⟩:=mem_ready.1 hk;unfold waits at hw
 grind
theorem aaY(k:Nat){oi:Oper}{v:Value}{fuel:Nat}{listed:Array Bool}{a:Act}{w:World}(hi:ops[i]?=some oi)
 (hs:Region.noSelect ops=true) (hf:Region.free md ops listed i=true) (hr:(Region.ready md ops listed).contains i=true)
 (hw:(waits md ops k i&&waits md ops m k&&!(m==i)&&!(k==i)&&!(listed.getD m true)&&!(listed.getD k true))=true)
 (hQ:∀c a w,Q (.panic c) (a.put oi.dst v) w->Q (.panic c) a w) (hy:YieldsIf P ops (λw=>C w/\D w) oi v a) (hS:mj m C D listed w)
 (h:He P md ops Q (mj m C D) fuel (listed.setIfInBounds i true) (a.put oi.dst v) w):He P md ops Q (mj m C D) (fuel+1) listed a w:=by
 simp only[Bool.and_eq_true,Bool.not_eq_true',beq_eq_false_iff_ne,ne_eq]at hw;obtain⟨⟨⟨⟨⟨hki,hmk⟩,hmi⟩,pX⟩,hum⟩,huk⟩:=hw;refine EG hi (Region.noSelect_spec hs) hQ (λL=>L.getD m true=false/\L.getD k true=false) ?_ (λL w=>?_) _ (λL w hL hs=>⟨hs.1 hL.1,hs.2⟩) fuel listed a w (by grind) (Region.free_spec hi hf) (by grind) hy hS h
 ·intro L j hL hiL hj hji;refine⟨?_,?_⟩
  ·by_cases hjm:j=m
   ·subst hjm;exact(JU hmk hL.2 hj).elim
   simp_all
  ·by_cases hjk:j=k
   ·subst hjk;exact(Pp hki hiL hj).elim
   simp_all
 ·unfold mj;rw[getD_set_ne true (λe=>(by omega))]
end
section
variable {P:Program} {md:Region.Mode} {ops:Array Oper} {Q:Exit->Act->World->Prop} {m:Nat} {C D:World->Prop}
variable {oi:Oper} {v:Value} {fuel:Nat} {listed:Array Bool} {a:Act} {w:World}
variable (i:Nat)
theorem zt
 (hi:ops[i]?=some oi:=by rfl) (hs:Region.noSelect ops=true:=by kernel_rfl) (hf:Region.free md ops listed i=true:=by kernel_rfl) (hr:(Region.ready md ops listed).contains i=true:=by kernel_rfl) (hmi:(!(m==i))=true:=by kernel_rfl)
 (hQ:∀c a w,Q (.panic c) (a.put oi.dst v) w->Q (.panic c) a w:=by exactλ_ _ _ h=>h) (hy:YieldsIf P ops D oi v a:=by exact .inl ⟨by rfl,by(intro W lR;revert lR;(try simp only[and_imp]);intros;go_simp;(try rfl))⟩) (hS:mj m C D listed w:=by assumption) (h:He P md ops Q (mj m C D) fuel (listed.setIfInBounds i true) (a.put oi.dst v) w):He P md ops Q (mj m C D) (fuel+1) listed a w:=
 ZM hi hs hf hr hmi hQ hy hS h
theorem zl
 (hi:ops[i]?=some oi:=by rfl) (hs:Region.noSelect ops=true:=by kernel_rfl) (hf:Region.free md ops listed i=true:=by kernel_rfl) (hr:(Region.ready md ops listed).contains i=true:=by kernel_rfl) (hw:(waits md ops m i&&!(m==i)&&!(listed.getD m true))=true:=by kernel_rfl)
 (hQ:∀c a w,Q (.panic c) (a.put oi.dst v) w->Q (.panic c) a w:=by exactλ_ _ _ h=>h) (hy:YieldsIf P ops (λw=>C w/\D w) oi v a:=by exact .inl ⟨by rfl,by(intro W lR;revert lR;(try simp only[and_imp]);intros;go_simp;(try rfl))⟩) (hS:mj m C D listed w:=by assumption) (h:He P md ops Q (mj m C D) fuel (listed.setIfInBounds i true) (a.put oi.dst v) w):He P md ops Q (mj m C D) (fuel+1) listed a w:=
 Hg hi hs hf hr hw hQ hy hS h
theorem zm(k i:Nat)
 (hi:ops[i]?=some oi:=by rfl) (hs:Region.noSelect ops=true:=by kernel_rfl) (hf:Region.free md ops listed i=true:=by kernel_rfl) (hr:(Region.ready md ops listed).contains i=true:=by kernel_rfl) (hw:(waits md ops k i&&waits md ops m k&&!(m==i)&&!(k==i)&&!(listed.getD m true)&&!(listed.getD k true))=true:=by kernel_rfl)
 (hQ:∀c a w,Q (.panic c) (a.put oi.dst v) w->Q (.panic c) a w:=by exactλ_ _ _ h=>h) (hy:YieldsIf P ops (λw=>C w/\D w) oi v a:=by exact .inl ⟨by rfl,by(intro W lR;revert lR;(try simp only[and_imp]);intros;go_simp;(try rfl))⟩) (hS:mj m C D listed w:=by assumption) (h:He P md ops Q (mj m C D) fuel (listed.setIfInBounds i true) (a.put oi.dst v) w):He P md ops Q (mj m C D) (fuel+1) listed a w:=
 aaY k hi hs hf hr hw hQ hy hS h
theorem zr{o:Oper}
 (h:∀K':Act->World->Prop,Shut (∀a w,mj m C D (listed.setIfInBounds i true) w->(mj m C D (listed.setIfInBounds i true) w->He P md ops Q (mj m C D) fuel (listed.setIfInBounds i true) a w)->K' a w)->if Region.wanted o (yielded ops a.tmps)=true then Oper.wp P o a w K' Q else K' (a.put o.dst undef) w)
 (ho:ops[i]?=some o:=by rfl) (hr:Region.ready md ops listed=[i]:=by kernel_rfl):He P md ops Q (mj m C D) (fuel+1) listed a w:=
 j6 hr (by simp) (kX.cons ho h kX.nil)
end
variable (w:World) (aq:Nat)
abbrev zq1:= @List.getElem_toArray
abbrev zq2:= @List.getElem_cons_succ
abbrev zP:= @List.getElem_cons_zero
abbrev zq4:= @List.setIfInBounds_toArray
abbrev zq5:= @List.set_cons_zero
abbrev RR:= @List.set_cons_succ
theorem Tryz.acY:(Tryz.prog.info? 216).map (λi=>(i.zero,i.size,i.bytes))=some (some (.agg #[.int .i64 0,.string ⟨#[]⟩,.slice none 0 0,.slice none 0 0]),4,72):=zp
theorem ahv{n m:Nat}(h:n+m<=1048576):∀old,old<n+m->Builtin.nextslicecap (n+m) old*72<=281474976710656:=by intro old ho;have:=ig ho;omega
def vY(P:Nat->Prop)(c:List Value)(t:Pl.fh):Prop:=
 ∃A aB cs,c=[.int .i64 (sig t.time),.slice A t.ops.length aB]/\t.ops.length<=aB/\Src w A cs/\fW 4 (OP w P) cs t.ops/\∀p,A=some p->P p.block
theorem vY.only{F P:Nat->Prop}{w w':World}{c:List Value}{t:Pl.fh}(h:vY w P c t)(ho:ag F w w')(hF:∀b,P b->¬F b):vY w' P c t:=by obtain⟨A,aB,cs,h1,h2,h3,h4,h5⟩:=h;exact⟨A,aB,cs,h1,h2,ho.src h3 zS,h4.mono (λ_ _ _ h=>h.only ho hF),h5⟩
theorem vY.mono{P P':Nat->Prop}{w:World}{c:List Value}{t:Pl.fh}(h:vY w P c t)(hP:∀b,P b->P' b):vY w P' c t:=by obtain⟨A,aB,cs,h1,h2,h3,h4,h5⟩:=h;exact⟨A,aB,cs,h1,h2,h3,h4.mono (λ_ _ _ h=>h.mono hP),zS⟩
def acA(l:List UInt8)(e:Ending)(w':World):Prop:=
 ∃(T:Int) (A':Option Addr) (n' cap':Nat) (ok:Bool),e= .returned (.tuple #[.agg #[.int .i64 T,.slice A' n' cap'],.bool ok])/\Below w.heap.size w w'/\ok=(Pl.fq l).isSome/\
  ∀t,Pl.fq l=some t->vY w' (λb=>w.heap.size<=b/\b<w'.heap.size) [.int .i64 T,.slice A' n' cap'] t
theorem Jn{fn:Func}{t s:Tmp}{tmps:Array Value}{w:World}{g:Nat}{a b c:Value}(h:fn.results= #[.cell t 147,.tmp s])(ht:tmps.getD t undef= .pointer (some ⟨g,0,none⟩))(hs:tmps.getD s undef=c)(hB:ay w g 147 [a,b]):
 (results fn tmps).run Tryz.prog w= .ok (.tuple #[.agg #[a,b],c]) w:=by
 have c0:=hB.cell 0;have c1:=hB.cell 1;simp only[aL,au]at c0 c1;simp only[fF]at ht hs;simp[results,h,ht,hs,go_sem,c0,c1,asAddr]
theorem rL.off{w w':World}{g k:Nat}{l:List UInt8}{bad:Bool}{t:TypeId}{cs:List Value}(h:rL w g l bad)(hB:ay w k t cs)(hk:g≠k)(hcs:∀u∈cs,∀x,u≠ .int .u8 x)(ho:ag (·=k) w w'):rL w' g l bad:=by
 obtain⟨A,aB,h1,h2,h3,h4,h5⟩:=h;refine⟨A,aB,h1,h2,ho.aC h3 hk,?_,h5⟩;rcases h4 with h4|⟨b,off,rfl,h4⟩
 ·exact .inl h4
 ·refine .inr ⟨b,off,rfl,λi hi=>ho.cell zw ?_⟩;rintro rfl;have:=h4 i hi;rw[hB.cell]at this
  grind
def FQ(v:Value)(ops:List Pl.jb):Prop:=
 ∃cs,w.ownsRow aq 216 4 v ops.length cs/\fW 4 (OP w (λb=>aq<=b/\b<w.heap.size/\v.ownBlock≠some b)) cs ops
theorem FQ.nil:FQ w aq (.slice none 0 0) []:=⟨[],dA _ _ _ _,fW.nil _ _⟩
theorem FQ.snoc{w w1 w3 w4 w5:World}{aq:Nat}{v v3:Value}{ops:List Pl.jb}{o:Pl.jb}{cs c:List Value}{F:Nat->Prop}(h1:w.ownsRow aq 216 4 v ops.length cs)
 (h2:fW 4 (OP w (λb=>aq<=b/\b<w.heap.size/\v.ownBlock≠some b)) cs ops) (hc:c.length=4) (ho:OP w1 (λb=>w.heap.size<=b/\b<w1.heap.size) c o) (de:aq<=w.heap.size)
 (hF:∀x,F x->x<aq) (o1:ag F w w1) (o13:w1.heap.size<=w3.heap.size) (o3:dP w1 w3) (hg:w3.grownBy w4 v.ownBlock) (bI:w4.ownsRow aq 216 4 v3 (ops.length+1) (cs++c)) (hv3:v3.ownBlock=v.ownBlock\/v3.ownBlock=some w3.heap.size)
 (o5:ag F w4 w5):FQ w5 aq v3 (ops++ [o]):=by
 have Er:=ao o1.size o3.size;have h35:w3.heap.size<=w5.heap.size:=ao hg.size o5.size;have fj:ag (λx=>F x\/v.ownBlock=some x) w w5:=(((o1.mono zS).aa o3).grown hg zS).trans o5 zS;have adP:ag (λx=>F x\/v.ownBlock=some x) w1 w5:=(((ag.refl _ w1).aa o3).grown hg zS).trans o5 zS;refine⟨cs++c,?_,?_⟩
 ·have:=o5.own bI (λg hg' hf=>by have:=(bI.lt g hg').1;grind);simpa using this
 ·refine fW.snoc (h2.mono (λc x _ hx=>?_)) hc ?_
  ·refine(hx.only fj (λb hb hf=>?_)).mono (λb hb=>⟨hb.1,zo,λe=>?_⟩)
   ·rcases hf with hf|hf
    ·have:=hF b hf;omega
    ·exact hb.2.2 hf
   ·rcases hv3 with e3|e3
    ·exact hb.2.2 (by rw[<-e3,e])
    ·rw[e3]at e;injection e with e;omega
  ·refine(ho.only adP (λb hb hf=>?_)).mono (λb hb=>⟨zo,zo,λe=>?_⟩)
   ·rcases hf with hf|hf
    ·have:=hF b hf;omega
    ·have:=(h1.lt b hf).2;omega
   ·rcases hv3 with e3|e3
    ·have:=(h1.lt b (by rw[<-e3,e])).2;omega
    grind
theorem Mh(A:Option Addr)(aB:Nat)(l:List UInt8)(w:World)(hb:aw w A l)(hc:l.length<=aB)(hm:l.length<=140737488351232)(hA:∀p,A=some p->p.block<w.heap.size):
 bG 75 #[.slice A l.length aB] w (acA w l):=by
 obtain⟨i0,yW,nQ,kK,mY⟩:=bV Tryz.acY;obtain⟨g2,w0,rQ,Lt,pL,B2⟩:=zE w 147 [.int .i64 0,.slice none 0 0];obtain⟨g4,TQ⟩:=ze w0.heap.size;obtain⟨w1,dj⟩:=ze (w0.alloc (.cells #[.int .i64 0,.slice none 0 0] 147));have aI:Below w.heap.size w w1:=by rw[<-dj];exact pL.alloc pL.size _
 have B4:=zB dj TQ;have B2':ay w1 g2 147 [.int .i64 0,.slice none 0 0]:=by rw[<-dj];exact B2.alloc _
 have h24:g2<g4:=by rw[<-TQ];exact B2.lt
 have iA:w.heap.size<=g2:=zo;obtain⟨c0,c1,f0,f1⟩:=aO B4;obtain⟨d0,d1,k0,k1⟩:=aO B2';obtain⟨ib,eY,fJ⟩:=kt B4 B2' aI;clear B2 B2' B4 pL aI;by_cases h4:l.length<4
 ·have q1:(l.length:Int)<4:=zo;have hno:Pl.fq l=none:=by unfold Pl.fq;rw[aj (λh=>by omega)]
  have Uc:=zi hno;have yS:ay ((w1.setCell ⟨g2,0,none⟩ (.int .i64 0)).setCell ⟨g2,1,none⟩ (.slice none 0 0)) g2 147 [.int .i64 0,.slice none 0 0]:=(eY.bw 0 _).bw 1 _;have aqN:=zi yS;clear h4 hno yS hb;go_enter Tryz.func75,Tryz.ntmps75;go_wp2_with fail;refine bH (Jn rfl rfl rfl aqN) rfl ⟨0,none,0,0,false,rfl,(fJ.setCell (p:=⟨g2,0,none⟩) iA _).setCell (p:=⟨g2,1,none⟩) iA _,by rw[Uc.out];rfl,λt ht=>by rw[Uc.out]at ht;cases ht⟩
 ·have q1:¬(l.length:Int)<4:=zo;obtain⟨body,IM⟩:=ze (l.take (l.length-4));obtain⟨tail,X3⟩:=ze (l.drop (l.length-4));have yg:body.length=l.length-4:=by rw[<-IM,aP];omega
  have Bu:tail.length=4:=by rw[<-X3,bT];omega
  have Yn:IntKind.i64.wrap ((l.length:Int)-4)=(body.length:Int):=by rw[show(l.length:Int)-4=(body.length:Int) by omega];exact aY _ zo
  obtain⟨A2,Kd⟩:=ze ((if aB=body.length then A else A.map (·.add body.length)));obtain⟨fC,aii⟩:=ze (aB-body.length);have yZ:∀W,(Instr.slice 29 (.slice A l.length aB) (some (.int .i64 (body.length:Int))) none none).run Tryz.prog W= .ok (.slice A2 tail.length fC) W:=λW=>by rw[qY W A l.length aB body.length _ rfl zo,Kd,aii,Bu,show l.length-body.length=4 by omega]
  have J3:aw w1 A l:=hb.bQ fJ;have Iy:aw w1 A2 tail:=by rw[<-X3,<-Kd,yg];exact J3.cut _ _ zo hc
  have hA':∀p,A=some p->p.block<w1.heap.size:=λp hp=>aK (hA p hp) fJ.size;have hBB:aw w1 A body:=by rw[<-IM];exact J3.head _
  obtain⟨g6,Ai⟩:=ze w1.heap.size;obtain⟨w2,akg⟩:=ze (w1.alloc (.cells #[.slice A body.length aB,.bool false] 210));have bz:Below w1.heap.size w1 w2:=by rw[<-akg];exact za _ _
  have HR0:Hid (rL w2 g6 body false):=⟨A,aB,zo,zo,by rw[<-akg,<-Ai];exact ay.new w1 210 _,hBB.bQ bz,λp hp=>by rw[<-Ai];exact hA' p hp⟩;have tl:Hid (aw w2 A2 tail):=Iy.bQ bz;have aiS:Hid (aw w2 A body):=hBB.bQ bz;obtain⟨HG,HC⟩:=dz (N1 A2 fC tail w2 tl zo) (Mc A aB body w2 aiS zo);obtain⟨Zu,aeB⟩:=ze (decide (Pl.num tail=4294967295-Pl.nM body));have heq:((Pl.num tail:Int)==((4294967295-Pl.nM body:Nat):Int))=Zu:=by rw[<-aeB,qZ,uz,oP];omega
  obtain⟨nt,hnt⟩:=ze (Pl.num tail);obtain⟨nc,wJ⟩:=ze (4294967295-Pl.nM body);rw[hnt,wJ]at heq;have atV:nc<=4294967295:=zo;unfold Hid at HG HC;rw[hnt]at HG;rw[wJ]at HC;obtain⟨HG,HC,HM⟩:=kt HG HC (mh g6 body false Zu w2 HR0);have B46:g4<g6:=by rw[<-Ai];exact ib.lt
  obtain⟨ib,eY⟩:=dz (ib.aa bz zo) (eY.aa bz zo);have Mi:Hid (Below w.heap.size w w2):=fJ.trans (bz.mono fJ.size);obtain⟨asU,anQ,aor⟩:=kt aeB IM X3;have hle:body.length<=aB:=zo;have Ol:body.length<=l.length:=zo;have H4:=zi (show 4<=l.length by omega);clear bz Iy hBB hb J3 hA hA' Kd aii aeB IM X3 hnt wJ fJ yg Bu h4 hc;go_enter Tryz.func75,Tryz.ntmps75;go_wp2_with fail;refine HG.mono ?_;rintro e w' ⟨rfl,rfl⟩;go_wp2_with fail;refine HC.mono ?_;rintro e w' ⟨rfl,rfl⟩;go_wp2_with fail;refine HM.mono ?_;rintro e w3 ⟨rfl,hR,hO⟩;obtain⟨b0,akE⟩:=ze ((false||!Zu));rw[akE]at hR;obtain⟨HO,HB0⟩:=dz hO akE;have PK:=SM g6 body b0 w3 hR;obtain⟨l1,l7⟩:=ze (body.drop 8);obtain⟨b1,aI⟩:=ze ((b0||decide (body.length<8)));obtain⟨T,hT⟩:=ze (sig (Pl.num (body.take 8)));rw[l7,aI,hT]at PK;obtain⟨HN8,HL1,arw,HT⟩:=yx PK l7 aI hT;clear hR hO akE PK l7 aI hT c0 c1 f0 f1 d0 d1 k0 k1;have Lf:=HO.aC ib zo;obtain⟨c0,c1,f0,f1⟩:=aO Lf;go_wp2_with fail;refine HN8.mono ?_;rintro e w4 ⟨rfl,hR,hO⟩;have Lf:=(ag.jk hO).aC Lf zo;have zQ:=zi (HO.aE (ag.jk hO));clear c0 c1 f0 f1 hO;obtain⟨c0,c1,f0,f1⟩:=aO Lf;obtain⟨w5,wO⟩:=ze (w4.setCell ⟨g4,0,none⟩ (.int .i64 T));have kF:ag (·=g4) w4 w5:=by rw[<-wO];exact(ag.refl (·=g4) w4).zs 0
  have ib:Hid (ay w5 g4 147 [.int .i64 T,.slice none 0 0]):=by rw[Hid,<-wO];exact Lf.bw 0 _
  have Ye:=zi (hR.off Lf zo zu kF);have VX:Hid (ag (λx=>x=g6\/x=g4) w2 w5):=(zQ.mono (λ_ _ h=> .inl h)).trans kF (λ_ _ h=> .inr h);have uc:=sd g6 1 l1 b1 w5 Ye zo;have kG:=Pl.eN l1 1;obtain⟨l2,BJ⟩:=ze (l1.drop 1);obtain⟨b2,bz⟩:=ze ((b1||decide (l1.length<1)));obtain⟨N,hN⟩:=ze (Pl.num (l1.take 1));rw[BJ,bz,hN]at uc;rw[hN]at kG;have hN':N<256:=by simpa using kG
  obtain⟨HN1,HL2,aiS,HNN⟩:=yx uc BJ bz hN;clear hR Lf uc BJ bz hN kG kF;go_wp2_with fail;clear c0 c1 f0 f1;refine HN1.mono ?_;rintro e w6 ⟨rfl,Ua,hO6⟩;obtain⟨Kt,ib⟩:=dz (VX.trans (ag.jk hO6) (λ_ _ h=> .inl h)) ((ag.jk hO6).aC ib zo);obtain⟨PF,Bf⟩:=ze (decide (1<=N/\N<=16));obtain⟨b3,bg⟩:=ze ((b2||!PF));have Gm:=mh g6 l2 b2 PF w6 Ua;rw[bg]at Gm;obtain⟨Gm,Ww,eI⟩:=kt Gm Bf bg;have Ya:((1:Int)<=(N:Int)/\decide ((1:Int)<=(N:Int))=true/\(N:Int)<=16/\decide ((N:Int)<=16)=true/\PF=true)\/(¬(1:Int)<=(N:Int)/\decide ((1:Int)<=(N:Int))=false/\PF=false)\/((1:Int)<=(N:Int)/\decide ((1:Int)<=(N:Int))=true/\¬(N:Int)<=16/\decide ((N:Int)<=16)=false/\PF=false):=by
   rw[<-Bf];by_cases h1:1<=N
   ·by_cases h2:N<=16
    ·exact .inl ⟨zo,by simp;omega,zo,by simp;omega,by simp[h1,h2]⟩
    ·exact .inr (.inr ⟨zo,by simp;omega,zo,by simp;omega,by simp[h2]⟩)
   ·exact .inr (.inl ⟨zo,by simp;omega,by simp[h1]⟩)
  clear Bf bg Ua hO6
  go_upto_region 9 with(fail)
  go_cut []from 36 (λwx=>Hid (rL wx g6 l2 b3)/\Hid (ay wx g4 147 [.int .i64 T,.slice none 0 0])/\Hid (ag (λx=>x=g6\/x=g4) w2 wx))
  case first=>
   rcases Ya with⟨h1,d1,h2,d2,rfl⟩|⟨h1,d1,rfl⟩|⟨h1,d1,h2,d2,rfl⟩
   all_goals
    go_wp2_with fail;refine Gm.mono ?_;rintro e w7 ⟨rfl,hR7,hO7⟩;go_wp2_with fail;go_meet;exact⟨hR7,hO7.aC ib zo,Kt.trans hO7 (λ_ _ h=> .inl h)⟩
  case rest=>
   clear Ya;obtain⟨HR7,ib,HO7⟩:=hcut;go_wp2_with fail
   go_loopw [7] (λn wr=>∃(r:Nat) (ops:List Pl.jb) (v:Value) (lr:List UInt8) (br:Bool),r<=N/\n= .int .i64 ((N-r:Nat):Int)/\Hid (ops.length=r)/\Hid (FQ wr w2.heap.size v ops)/\Hid (ay wr g4 147 [.int .i64 T,v])/\
    Hid (rL wr g6 lr br)/\Hid (ag (λx=>x=g6\/x=g4) w2 wr)/\Hid (oH Pl.SB N l2 b3 r ops lr br)) (λn _=>(intOf n).toNat)
   case atStart=>exact⟨0,[],_,_,_,aM _,rfl,rfl,FQ.nil _ _,ib,HR7,HO7,oH.start _ _ _ _⟩
   case round=>
    obtain⟨r,ops,v,lr,br,hr,rfl,GY,HOP,ib,HRr,HO,Gr⟩:=hrel;obtain⟨q,hq⟩:=ze (N-r);rw[hq];have MF:r+q=N:=zo;have HQ:=zi MF;have hrN:r<=N:=hr;have hqb:q<256:=zo;clear hq MF;obtain⟨Ar,Y2,hrc,Lw,V2,Ex,hrA⟩:=HRr.out;have c1:=V2.cell 1;simp only[aL,au]at c1;clear hrc Lw Ex hrA;by_cases hgo:br=false/\0<q
    ·obtain⟨rfl,hq0⟩:=hgo;have hq1:(0:Int)<(q:Int):=zo;have HV:=zi (ajS g6 lr false wr.drew HRr);obtain⟨cs,bI,kD⟩:=HOP.out;obtain⟨aec,Kj⟩:=dz kD bI;clear bI kD HOP;have hc4:=ib.cell 1;simp only[aL,au]at hc4;have HC4:=zi hc4;clear V2 hc4;go_wp2_with fail;refine aN 5 (λW=>W.cell? ⟨g4,1,none⟩=some v) (λ_=>True) zp HC4 trivial (λaz=>?_);refine zt 0 (h:=zl 1 (h:=zt 2 (h:=?_)));refine zr 3 λK hK=>?_;go_simp;refine HV.mono ?_;rintro e w8 ⟨x,o,rfl,hov,hob,l',rA,hR8,RV,aeH,Vo⟩;obtain⟨c,rfl,CC,hor⟩:=hov.cells;obtain⟨Ac,cc,Aw,cw,rfl,hh⟩:=hor;obtain⟨hor,wu,Vo⟩:=kt (show OP w8 (λb=>wr.heap.size<=b/\b<w8.heap.size) _ o from⟨Ac,cc,Aw,cw,rfl,hh⟩) (Gr.step (zA HQ.out) RV aeH) Vo.im;have ajg:=zi (Vo.aC ib zo);have akG:=ajg.cell 1;have hR8:=zi hR8;simp only[aL,au]at akG;have ars:=zi akG;clear akG RV aeH hh hov hob HV;go_wp2_with fail;refine hK.out _ _ ⟨λ_=>ars,trivial⟩ (λaz=>?_);clear hK K;refine zr 4 λK hK=>?_;go_simp;obtain⟨w9,En,qA⟩:=zF w8 (.cells #[.int .i64 (o.kind:Nat),.string (ar o.table),.slice Ac o.aZ.length cc,.slice Aw o.row.length cw] 216);have anl:Hid (Src w9 (some ⟨w8.heap.size,0,none⟩) [.int .i64 (o.kind:Nat),.string (ar o.table),.slice Ac o.aZ.length cc,.slice Aw o.row.length cw]):=Src.dE (t:=216) (by rw[<-En];exact ay.new w8 216 _);have tN:g6<w2.heap.size:=HR0.lt;obtain⟨aoO,aob⟩:=dz (ag.own ((ag.refl (λ_=>False) w8).aa qA) (Vo.own Kj (λg hg e=>by have:=(Kj.lt g hg).1;omega)) (λ_ _ h=>h)) (ajg.aa qA ajg.lt);have ajL:Hid (w2.heap.size<=w9.heap.size):=ao HO.size (ao Vo.size qA.size);have hn9:Hid (ops.length+1<=256):=by rw[Hid,GY.out];omega
     have Py:=zi qA;rw[En];refine hK.out _ _ ⟨λ_=>aob.cell 1,trivial⟩ (λaz=>?_);clear hK K qA;refine zr 5 λK hK=>?_;refine fY _ rfl (.tmp 56) (.tmp 59) 145 rfl w2.heap.size 216 i0 _ 4 72 Tryz.underlying145 yW nQ kK mY rfl zj v ops.length cs rfl aoO (some ⟨w8.heap.size,0,none⟩) 1 1 _ rfl rfl anl (by simp;exact⟨rfl,rfl,rfl,rfl⟩) (by have:=hn9.out;unfold maxLen;omega) (ahv (zA hn9.out)) ajL.out ?_;intro v3 pZ Xc qa ahX;refine hK.out _ _ ⟨zk zp,trivial⟩ (λaz=>?_);clear hK K;refine zt 6 (h:=?_);refine zr 7 λK hK=>?_;have ark:v.ownBlock≠some g4:=λe=>by have:=(Kj.lt g4 e).1;omega
     have Wb:=aob.grown qa (cy ark);obtain⟨c40,c41,f40,f41⟩:=aO Wb;obtain⟨A3,mL,rfl,OM,Er,Mw⟩:=bJ Xc;go_simp;obtain⟨Et,IL⟩:=ze (pZ.setCell ⟨g4,1,none⟩ (.slice A3 (ops.length+1) mL));have ahg:ag (·=g4) pZ Et:=by rw[<-IL];exact(ag.refl (·=g4) pZ).zs 1
     have aqw:Hid (ay Et g4 147 [.int .i64 T,.slice A3 (ops.length+1) mL]):=by rw[Hid,<-IL];exact Wb.bw 1 _
     have ahK:ag (λx=>x=g6\/x=g4) wr w9:=(Vo.out.mono (λ_ _ h=> .inl h)).aa Py.out;have hR9:=hR8.aa Py;have aoj:rL pZ g6 l' rA:=hR9.only (ag.mono (G:=λk=>v.ownBlock=some k) ⟨qa.os,qa.tape,qa.output,qa.size,λk hk hn=>qa.block k hk (λe=>hn e.symm)⟩ (λ_ _ h=>h)) (λy hy hn=>by have:=(Kj.lt y hn).1;omega);have apH:=zi (aoj.off Wb zo (by obtain⟨_,_,hv,_⟩:=bJ Kj;rw[hv];simp) ahg);have anD:Hid (FQ Et w2.heap.size (.slice A3 (ops.length+1) mL) (ops++ [o])):=
      FQ.snoc (F:=λx=>x=g6\/x=g4) Kj aec rfl hor HO.size (λx hx=>by have:=ib.lt;rcases hx with rfl|rfl<;>omega) (Vo.mono (λ_ _ h=> .inl h)) Py.size Py.out qa Xc ahX (ahg.mono (λ_ _ h=> .inr h))
     have arb:Hid (ag (λx=>x=g6\/x=g4) w2 Et):=(((HO.aE ahK)).grown qa (λg hg=> .inr (Kj.lt g hg).1)).trans ahg (λ_ _ h=> .inr h);have EO:=GY;have Yg:=HQ;clear Xc qa ahX Wb Er Mw ahg hR9 aoj ahK;rw[IL];refine hK.out _ _ ⟨zk zp,trivial⟩ (λaz=>?_);clear hK K;refine bh zp ?_ _;clear az;go_wp2_with fail;have hq3:=Yg.out;refine⟨⟨r+1,ops++ [o],_,l',rA,zo,?_,?_,anD,aqw,apH,arb,wu⟩,?_⟩
     ·rw[show((N-(r+1):Nat):Int)=(q:Int)-1 by omega]
     ·rw[Hid,ax,EO.out];rfl
     ·simp[intOf];omega
    ·have hee:br=false->N<=r:=λe=>by have:=HQ.out;have:¬0<q:=λh=>hgo ⟨e,h⟩;omega
     have hex:(br=true/\(0:Int)<(q:Int))\/¬(0:Int)<(q:Int):=by
      cases br
      ·exact .inr (zC (hee rfl) HQ.out)
      ·by_cases h:0<q
       ·exact .inl ⟨rfl,zo⟩
       ·exact .inr zo
     have HD1:=zi (Gr.done hee).1;have Kb:=zi (Gr.done hee).2;obtain⟨cs,bI,kD⟩:=HOP.out;obtain⟨A3,mL,rfl,OM,Er,Mw⟩:=bJ bI;obtain⟨Kj,aec⟩:=dz bI kD;have c0:=V2.cell 0;obtain⟨eb,heb⟩:=ze (((lr.length:Int)==0));have HEB:Hid (eb=decide (lr.length=0)):=by rw[Hid,<-heb,qZ,uz,oP];omega
     obtain⟨bf,hbf⟩:=ze ((br||!eb));have HMF:=mh g6 lr br eb wr HRr;rw[hbf]at HMF;obtain⟨HMF,Yj,HK3,Je⟩:=yx HMF hbf Mw Er;clear hee hgo bI kD hbf V2 Er Mw;simp only[au]at c0;have aeu:g2≠g6/\g2≠g4/\g4≠g6:=zo;rcases hex with⟨rfl,hq1⟩|hq1
     all_goals
      go_wp2_with fail;refine HMF.mono ?_;rintro e w9 ⟨rfl,hRf,hOf⟩;obtain⟨HO9,aqz⟩:=dz (HO.trans hOf (λ_ _ h=> .inl h)) (hOf.aC ib aeu.2.2);have ann:=zi (HO9.aC eY (λh=>by rcases h with h|h<;>omega));obtain⟨Af,atC,_,_,V2,_,_⟩:=hRf;have cf:=V2.cell 1;simp only[aL,au]at cf;obtain⟨m0,m1,y0,y1⟩:=aO aqz;obtain⟨p0,p1,z0,z1⟩:=aO ann;obtain⟨pZ,Nh⟩:=ze (((w9.setCell ⟨g2,0,none⟩ (.int .i64 T)).setCell ⟨g2,1,none⟩ (.slice A3 ops.length mL)).drew);have Wb:ay pZ g2 147 [.int .i64 T,.slice A3 ops.length mL]:=by rw[<-Nh];exact((ann.bw 0 _).bw 1 _).drew
      have adu:ag (·=g2) w9 pZ:=by rw[<-Nh];exact(((ag.refl (·=g2) w9).zs 0).zs 1).drew
      obtain⟨aqS,Jg,amF,HOF⟩:=yx (zd (adu.cell m0 (cy aeu.2.1)) (adu.cell m1 (cy aeu.2.1)) (adu.cell cf (cy aeu.1))) Wb adu hOf;clear V2 Wb adu hOf;go_wp2_with fail;obtain⟨n26,n24,_⟩:=aeu
      have hD:=afi H4 anQ (show decide (Pl.num (l.drop (l.length-4))=4294967295-Pl.nM body)=Zu by rw[aor.out];exact asU) HL1 HL2 HNN
       (show(!Zu||decide (body.length<8))=b1 by have h1:=HB0.out;have h2:=arw.out;rw[Bool.false_or]at h1;rw[h1];exact h2) aiS
       (show(b2||!decide (1<=N/\N<=16))=b3 by rw[Ww.out];exact eI) HD1 Kb (show(!(_||!decide (lr.length=0)))=!bf by rw[<-HEB.out,Yj.out])
      have HD:=zi hD;clear hD
      go_region_held3 (λW:World=>W.cell? ⟨g4,0,none⟩=some (.int .i64 T)/\W.cell? ⟨g4,1,none⟩=some (.slice A3 ops.length mL)/\W.cell? ⟨g6,1,none⟩=some (.bool bf)) (first|exact⟨m0,m1,cf⟩|exact aqS) (fail)
      go_wp2_with fail;have tN:g6<w2.heap.size:=HR0.lt;have fj:ag (λx=>x=g6\/x=g4\/x=g2) w pZ:=((ag.ae Mi _).trans HO9 (λ_ _ h=>by rcases h with h|h;exact .inl h;exact .inr (.inl h))).trans amF (λ_ _ h=> .inr (.inr h));have tu:ag (λx=>x<w2.heap.size) wr pZ:=(HOF.mono (λx _ (h:x=g6)=>by show x<_;omega)).trans amF.out (λx _ (h:x=g2)=>by show x<_;omega);refine bH (Jn rfl rfl rfl Jg) rfl ⟨T,A3,ops.length,mL,!bf,rfl,fj.cW (ai _) (λk hk h=>by omega),HD.1,λt ht=>?_⟩;have gP:(!bf)=true:=by rw[HD.1,ht];rfl
      have h5:=HD.2 gP;rw[ht]at h5;injection h5 with h5;subst h5;have hsz:=fj.size;have atz:=Mi.size;refine⟨A3,mL,cs,by rw[<-HT.out],OM,tu.src Je (λp hp h=>?_),aec.mono (λc x _ hx=>(hx.only tu (λb hb h=>by omega)).mono (λb hb=>⟨zo,aK hb.2.1 tu.size⟩)),λp hp=>?_⟩
      ·have:=(Kj.lt _ (HK3 p hp)).1;omega
      ·have:=Kj.lt _ (HK3 p hp);exact⟨zo,aK this.2 tu.size⟩
section
variable {P:Program} (w:World)
theorem Xp(aq:Nat)(t u ty e:TypeId)(i:TypeInfo)(ht:P.underlying t=some (.slice e))(hu:P.underlying u=some .string)(hi:P.info? e=some i)(hz:i.zero=some (.int .u8 0))(jE:i.size=1)(pr:i.bytes=1)
 (v:Value) (n:Nat) (xs:List Value) (bI:w.ownsRow aq e 1 v n xs) (s:ByteArray) (hb:n+s.size<=140737488355328) {v':Value} {w':World}
 (hr:(Builtin.append_ #[t,u] ty #[v,.string s]).run P w= .ok v' w'):v'.ownBlock=v.ownBlock\/v'.ownBlock=some w.heap.size:=by
 have ZA:xs.length=n:=by simpa using bI.1
 rcases bI.2 with⟨rfl,rfl⟩|⟨g,aB,cur,rfl,IH,hg,wJ,hcm,hcs,aes⟩
 ·by_cases hm:s.size=0
  ·have hf:=Lib.run_firstCells_string (P:=P) w 1 s;rw[hm]at hf;have:(Builtin.append_ #[t,u] ty #[.slice none 0 0,.string s]).run P w= .ok (.slice none 0 0) w:=by simp[Builtin.append_,gA ht,gA hu,sizeOf,typeInfo,hi,jE,Builtin.lenOf,hm,hf]
   grind
  ·rw[run_append_nil_string (P:=P) w t u ty e i (.int .u8 0) ht hu hi hz s zo zo zw]at hr;injection hr with h1 _;subst h1;exact .inr rfl
 ·by_cases hroom:n+s.size<=aB
  ·have hcz:cur.size=aB:=zo;rw[Lib.run_append_room_string (P:=P) w t u ty e i ht hu hi jE g n aB cur hg s hroom zo]at hr;injection hr with h1 _;subst h1;exact .inl rfl
  ·rw[Lib.run_append_grow_string (P:=P) w t u ty e i (.int .u8 0) ht hu hi hz ⟨g,0,none⟩ n aB xs zw (bI.cells (g:=g) rfl) s zo zo (by rw[pr];exact growslice_fits zo zo)]at hr;injection hr with h1 _;subst h1;exact .inr rfl
end
variable {a b c:World} {u v:Value} {aq:Nat} {l:List UInt8}
variable (w w':World)
def Ob(aq:Nat)(v:Value)(l:List UInt8):Prop:=w.ownsRow aq 5 1 v l.length (bv l)
def Mv(v v':Value):Prop:=w.grownBy w' v.ownBlock/\∀k,k<w.heap.size->v.ownBlock≠some k->v'.ownBlock≠some k
theorem Mv.refl(w:World)(v:Value):Mv w w v v:=⟨⟨rfl,rfl,rfl,zo,zu⟩,zu⟩
theorem Mv.trans{a b c:World}{u v x:Value}(h:Mv a b u v)(k:Mv b c v x):Mv a c u x:=
 ⟨⟨k.1.os.trans h.1.os,k.1.tape.trans h.1.tape,k.1.output.trans h.1.output,ao h.1.size k.1.size,λi hi hn=>
   (k.1.block i (aK hi h.1.size) (λe=>h.2 i hi (λe=>zw) e.symm)).trans (h.1.block i hi hn)⟩,λi hi hn=>k.2 i (aK hi h.1.size) (h.2 i hi hn)⟩
theorem Mv.aa(h:Mv a b u v)(k:dP b c):Mv a c u v:=
 ⟨⟨k.os.trans h.1.os,k.tape.trans h.1.tape,k.output.trans h.1.output,ao h.1.size k.size,λi hi hn=>(k.block i (aK hi h.1.size)).trans (h.1.block i hi hn)⟩,h.2⟩
theorem Mv.alloc{a b:World}{u v:Value}(h:Mv a b u v)(o:Obj):Mv a (b.alloc o) u v:=h.aa ((ak _ _).alloc zo _)
theorem Mv.drew(h:Mv a b u v):Mv a b.drew u v:=⟨⟨h.1.os,h.1.tape,h.1.output,h.1.size,h.1.block⟩,h.2⟩
theorem Mv.only(h:Mv a b u v):ag (λk=>u.ownBlock=some k) a b:=⟨h.1.os,h.1.tape,h.1.output,h.1.size,λk hk hn=>h.1.block k hk (λe=>zw)⟩
theorem Mv.gV(h:Mv a b u v)(ho:Ob a aq u l)(hb:aq<=a.heap.size):Below aq a b:=h.only.cW hb (λk hk e=>by have:=(ho.lt k e).1;omega)
theorem Mv.before(h:dP a b)(k:Mv b c u v)(ho:Ob a aq u l):Mv a c u v:=
 ⟨⟨k.1.os.trans h.os,k.1.tape.trans h.tape,k.1.output.trans h.output,ao h.size k.1.size,λi hi hn=>(k.1.block i (aK hi h.size) hn).trans (h.block i hi)⟩,λi hi hn=>k.2 i (aK hi h.size) hn⟩
theorem Ob.nil(aq:Nat):Ob w aq (.slice none 0 0) []:=dA _ _ _ _
theorem Ob.aa{w w':World}(h:Ob w aq v l)(k:dP w w'):Ob w' aq v l:=(ag.ae k (λ_=>False)).own h zu
theorem Ob.alloc{w:World}{aq:Nat}{v:Value}{l:List UInt8}(h:Ob w aq v l)(o:Obj):Ob (w.alloc o) aq v l:=World.ownsRow.alloc h o
theorem Ob.bytes{w:World}{aq:Nat}{v:Value}{l:List UInt8}(h:Ob w aq v l):∃A aB,v= .slice A l.length aB/\l.length<=aB/\aw w A l/\∀p,A=some p->aq<=p.block/\p.block<w.heap.size:=by obtain⟨A,aB,h1,h2,h3,h4⟩:=bJ h;exact⟨A,aB,h1,h2,h3.bytes,λp hp=>h.lt _ zw⟩
def Wr(aq:Nat)(v:Value)(l:List UInt8)(e:Ending)(w':World):Prop:=∃v',e= .returned v'/\Ob w' aq v' l/\Mv w w' v v'
section
variable {ops:Array Oper} {rest:List Oper} {o:Oper} {a:Act} {K:Act->World->Prop} {Q:Exit->Act->World->Prop} {w:World} {E:Prop}
variable {aq:Nat} {v:Value} {l:List UInt8}
variable (s x:Operand)
theorem Q2(ho:o.op= .call {callee:= .builtin .append,args:= #[s,x],argTypes:= #[29,29]})(hs:a.eval s=v)(bI:Ob w aq v l)
 (A:Option Addr) (m c:Nat) (news:List UInt8) (hx:a.eval x= .slice A m c) (hm:news.length=m) (hr:Src w A (bv news)) (hl:l.length+m<=70368744177664) (hb:aq<=w.heap.size)
 (h:∀v' w',Ob w' aq v' (l++news)->Mv w w' v v'->K (a.put o.dst v') w'):o.wp Tryz.prog a w K Q:=by
 obtain⟨i0,hi,nQ,kK,mY⟩:=bV Tryz.jm;subst hm;refine j7 w s x 29 ho aq 5 i0 (.int .u8 0) 1 1 Tryz.underlying29 hi nQ kK mY rfl zj v l.length (bv l) hs bI A news.length c (bv news) hx zu hr (Pf _) (by simp only[maxLen];omega) (iK (n:=l.length) (m:=news.length) zo) hb ?_;intro v' w' h1 h2 h3;refine h v' w' (by rw[Ob,ax,nu];exact h1) ⟨h2,λk hk hn=>?_⟩;rcases h3 with e|e
 ·rw[e];exact hn
 ·rw[e];intro e;injection e;omega
theorem ic(qO:o.guard=none)(s x:Operand)(ho:o.op= .call {callee:= .builtin .append,args:= #[s,x],argTypes:= #[29,29]})(hs:a.eval s=v)(bI:Ob w aq v l)
 (A:Option Addr) (m c:Nat) (news:List UInt8) (hx:a.eval x= .slice A m c) (hm:news.length=m) (hr:Src w A (bv news)) (hl:l.length+m<=70368744177664) (hb:aq<=w.heap.size)
 (h:∀v' w',Ob w' aq v' (l++news)->Mv w w' v v'->wpList Tryz.prog ops Q rest (a.put o.dst v') w'):wpList Tryz.prog ops Q (o::rest) a w:=
 oS qO λ_ hK=>Q2 s x ho hs bI A m c news hx hm hr hl hb λv' w' h1 h2=>hK _ _ (h v' w' h1 h2)
theorem GR(qO:o.guard=none)(s x:Operand)(ho:o.op= .call {callee:= .builtin .append,args:= #[s,x],argTypes:= #[29,29]})(hs:a.eval s=v)(bI:Ob w aq v l)
 (A:Option Addr) (m c:Nat) (news:List UInt8) (hx:a.eval x= .slice A m c) (hm:news.length=m) (hr:Src w A (bv news)) (hl:l.length+m<=70368744177664) (hb:aq<=w.heap.size)
 (h:∀v' w',Ob w' aq v' (l++news)->Mv w w' v v'->K (a.put o.dst v') w'):if Region.wanted o (yielded ops a.tmps)=true then Oper.wp Tryz.prog o a w K Q else E:=by
 rw[ah (by simp[Region.wanted,qO])];exact Q2 s x ho hs bI A m c news hx hm hr hl hb h
theorem acm(ho:o.op= .call {callee:= .builtin .append,args:= #[s,x],argTypes:= #[29,9]})(hs:a.eval s=v)(bI:Ob w aq v l)
 (news:List UInt8) (hx:a.eval x= .string (ar news)) (hl:l.length+news.length<=70368744177664) (hb:aq<=w.heap.size)
 (h:∀v' w',Ob w' aq v' (l++news)->Mv w w' v v'->K (a.put o.dst v') w'):o.wp Tryz.prog a w K Q:=by
 obtain⟨i0,hi,nQ,kK,mY⟩:=bV Tryz.jm;have hsz:=bK news;obtain⟨v',w',hr,h2,h3,h4⟩:=Lib.run_append_own_string (P:=Tryz.prog) w aq 29 9 o.type 5 i0 Tryz.underlying29 Tryz.underlying9 hi nQ kK mY v l.length (bv l) bI (ar news) (by rw[hsz];simp only[maxLen];omega) zo hb;have yT:=Xp (P:=Tryz.prog) w aq 29 9 o.type 5 i0 Tryz.underlying29 Tryz.underlying9 hi nQ kK mY v l.length (bv l) bI (ar news) zo hr;unfold Oper.wp execOp;simp only[ho,resolve,invoke,builtin,iL,Sem.run_pure,oN,Cy,jf,qL,hs,hx,hr];refine h v' w' (by rw[Ob,ax,nu];rw[hsz]at h2;exact h2) ⟨h3,λk hk hn=>?_⟩;rcases yT with e|e
 ·rw[e];exact hn
 ·rw[e];intro e;injection e;omega
theorem Ce(qO:o.guard=none)(s x:Operand)(ho:o.op= .call {callee:= .builtin .append,args:= #[s,x],argTypes:= #[29,9]})(hs:a.eval s=v)(bI:Ob w aq v l)
 (news:List UInt8) (hx:a.eval x= .string (ar news)) (hl:l.length+news.length<=70368744177664) (hb:aq<=w.heap.size)
 (h:∀v' w',Ob w' aq v' (l++news)->Mv w w' v v'->wpList Tryz.prog ops Q rest (a.put o.dst v') w'):wpList Tryz.prog ops Q (o::rest) a w:=
 oS qO λ_ hK=>acm s x ho hs bI news hx hl hb λv' w' h1 h2=>hK _ _ (h v' w' h1 h2)
end
variable {n k:Nat} {w':World} {t:TypeId} {p:Pl.Pr}
variable (w:World) (b:Nat) (ps:List Pl.Pr) (ks:List Pl.Key) (rs:List Nat) (v:Value) (l:List UInt8) (A:Option Addr)
theorem lH(c:Nat)(hc:c<256):Src (w.alloc (.cells #[.int .u8 (c:Int)] 5)) (some ⟨w.heap.size,0,none⟩) (bv [UInt8.ofNat c]):=by
 have:bv [UInt8.ofNat c]=[.int .u8 (c:Int)]:=by simp[bv];omega
 rw[this];exact Src.dE (ay.new w 5 _)
theorem iV{w:World}{b:Nat}(h:b<=w.heap.size)(o:Obj):b<=(w.alloc o).heap.size:=ao h zu
theorem Fj(s:List UInt8)(aq:Nat)(w:World)(bI:Ob w aq v l)(de:aq<=w.heap.size)(hl:l.length<=1099511627776)(hs:s.length<256):
 bG 246 #[v,.string (ar s)] w (Wr w aq v (l++Pl.short s)):=by
 have hz:=bK s;obtain⟨n,hn⟩:=ze s.length;have hc:IntKind.u8.wrap (n:Int)=n:=by rw[IntKind.wrap_u8];omega
 have GH:n<256:=zo;obtain⟨h1,h2,h3,h4⟩:=yx (bI.alloc (.cells #[.int .u8 (n:Int)] 5)) (lH w n GH) (iV de (.cells #[.int .u8 (n:Int)] 5)) ((Mv.refl w v).alloc (.cells #[.int .u8 (n:Int)] 5));have CD:Hid (Pl.short s=UInt8.ofNat n::s):=by rw[Hid,<-hn];rfl
 have l7:=zi (show l.length+1<=70368744177664 by omega);have BJ:Hid ((l++ [UInt8.ofNat n]).length+s.length<=70368744177664):=by rw[Hid,ax,dy];omega
 rw[hn]at hz;clear hn hs;go_enter Tryz.func246,Tryz.ntmps246;go_wp2_with (first
  |(at_builtin
    refine ic rfl (.tmp 5) (.tmp 9) rfl rfl h1 (some ⟨w.heap.size,0,none⟩) 1 1 [UInt8.ofNat n] rfl rfl h2 l7 h3 ?_;intro v2 w2 o2 m2;have o2:=zi o2;have m2:=zi m2)
  |(at_builtin
    refine Ce rfl (.tmp 10) (.tmp 11) rfl rfl o2 s rfl BJ (ao h3 m2.1.size) ?_;intro v3 w3 o3 m3;have o3:=zi o3;have m3:=zi m3)
  |fail)
 go_ret;exact⟨_,rfl,by rw[CD.out,show l++UInt8.ofNat n::s=(l++ [UInt8.ofNat n])++s by simp];exact o3,(h4.trans m2).trans m3⟩
theorem wrap_u8{n:Nat}(h:n<256):IntKind.u8.wrap (n:Int)=n:=by rw[IntKind.wrap_u8];omega
theorem Hz(h:n<18446744073709551616):IntKind.u64.wrap (sig n)=(n:Int):=by unfold sig;split<;>rw[lE]<;>omega
theorem Wr.ajP{w:World}{aq s:Nat}{v:Value}{l x:List UInt8}(hl:l.length=n)(hx:x.length=s)(ho:Ob w aq v l){e:Ending}
 (h:∃v',e= .returned v'/\w'.ownsRow aq 5 1 v' (n+s) (bv (l++x))/\Below aq w w'/\(∀k,k<w.heap.size->v.ownBlock≠some k->w'.heap[k]?=w.heap[k]?/\v'.ownBlock≠some k)):Wr w aq v (l++x) e w':=by
 obtain⟨v',rfl,h1,h2,h3⟩:=h;subst hl hx;exact⟨v',rfl,by rw[Ob,ax];exact h1,⟨h2.os,h2.tape,h2.output,h2.size,zw⟩,zw⟩
theorem sQ(x s aq:Nat)(w:World)(bI:Ob w aq v l)(de:aq<=w.heap.size)(hx:x<18446744073709551616)(hs:s<=8)(Fl:0<s)(hn:l.length<=70368744177664):
 bG 132 #[v,.int .u64 x,.int .i64 s] w (Wr w aq v (l++Pl.be s x)):=
 (mw v l.length l x s aq w (.inl bI) de hx hs Fl hn).mono λ_ _ h=>Wr.ajP rfl (Pl.aG s x) bI h
theorem JG(x:Pl.Vl)(aq:Nat)(w:World)(bI:Ob w aq v l)(de:aq<=w.heap.size)(hl:l.length<=549755813888)(hx:VlB x):
 bG 248 #[v,.agg #[.int .i64 (x.ty:Nat),.int .i64 (sig x.n),.string (ar x.s)]] w (Wr w aq v (l++Pl.nI x)):=by
 obtain⟨ty,n,s⟩:=x;obtain⟨h1,h2,h3⟩:=hx;dsimp only at h1 h2 h3|-
 have hz:=bK s;have w1:=wrap_u8 h1;have w2:=Hz h2;obtain⟨wb,p9⟩:=ze (w.alloc (.cells #[.int .i64 (ty:Nat),.int .i64 (sig n),.string (ar s)] 88));obtain⟨gb,pO⟩:=ze w.heap.size;have BB:=zB p9 pO;have ob1:Ob wb aq v l:=by rw[<-p9];exact bI.alloc _
 have mb1:Mv w wb v v:=by rw[<-p9];exact(Mv.refl w v).alloc _
 have dM:aq<=wb.heap.size:=by rw[<-p9];exact iV de _
 have hne:v.ownBlock≠some gb:=λe=>by have:=(bI.lt gb e).2;omega
 obtain⟨c0,c1,c2,_,_,_⟩:=dD BB;obtain⟨H1,H2,H3,H4,H5,H6,H7,H9⟩:=zh8 (ob1.alloc (.cells #[.int .u8 (ty:Int)] 5)) (lH wb ty h1) (iV dM (.cells #[.int .u8 (ty:Int)] 5)) (mb1.alloc (.cells #[.int .u8 (ty:Int)] 5)) (BB.alloc (.cells #[.int .u8 (ty:Int)] 5)) (show l.length+1<=70368744177664 by omega) (show(l++ [UInt8.ofNat ty]).length<=1099511627776 by rw[ax,dy];omega) (show s.length<256 by omega);clear bI de hl h3 BB ob1 mb1 dM;by_cases ht:ty=1
 ·have q1:((ty:Int)==1)=true:=by rw[ht];rfl
  have HE:Hid (Pl.nI ⟨ty,n,s⟩=[UInt8.ofNat ty]++Pl.be 8 n):=by rw[Hid];unfold Pl.nI;rw[ah ht];rfl
  clear ht;go_enter Tryz.func248,Tryz.ntmps248;go_wp2_with (first
   |(at_builtin
     refine ic (v:=v) rfl (.tmp 5) (.tmp 9) rfl rfl H1 (some ⟨wb.heap.size,0,none⟩) 1 1 [UInt8.ofNat ty] rfl rfl H2 H6 H3 ?_;intro v2 w2 o2 m2;obtain⟨o2,m2⟩:=dz o2 m2;obtain⟨c0,c1,c2,_,_,_⟩:=dD (m2.only.aC H5 (λe=>hne e)))
   |fail)
  refine(sQ _ _ n 8 aq _ o2 (ao H3 m2.1.size) h2 zo zo (zA H7.out)).mono ?_;rintro e w3 ⟨v3,rfl,o3,m3⟩;obtain⟨o3,m3⟩:=dz o3 m3;go_wp2_with fail;go_ret;exact⟨_,rfl,by rw[HE.out,<-cJ];exact o3,(H4.trans m2).trans m3⟩
 ·have q1:((ty:Int)==1)=false:=b9.2 zo;have HE:Hid (Pl.nI ⟨ty,n,s⟩=[UInt8.ofNat ty]++Pl.short s):=by rw[Hid];unfold Pl.nI;rw[aj ht];rfl
  clear ht;go_enter Tryz.func248,Tryz.ntmps248;go_wp2_with (first
   |(at_builtin
     refine ic (v:=v) rfl (.tmp 5) (.tmp 9) rfl rfl H1 (some ⟨wb.heap.size,0,none⟩) 1 1 [UInt8.ofNat ty] rfl rfl H2 H6 H3 ?_;intro v2 w2 o2 m2;obtain⟨o2,m2⟩:=dz o2 m2;obtain⟨c0,c1,c2,_,_,_⟩:=dD (m2.only.aC H5 (λe=>hne e)))
   |fail)
  refine(Fj _ _ s aq _ o2 (ao H3 m2.1.size) H7 H9).mono ?_;rintro e w3 ⟨v3,rfl,o3,m3⟩;obtain⟨o3,m3⟩:=dz o3 m3;go_wp2_with fail;go_ret;exact⟨_,rfl,by rw[HE.out,<-cJ];exact o3,(H4.trans m2).trans m3⟩
theorem jB{α β:Type}{f:α->List β}{s:Nat}(hf:∀x,(f x).length=s):∀(xs:List α) (k:Nat) (x:α),xs[k]?=some x->∀j,j<s->(xs.flatMap f)[k*s+j]?=(f x)[j]?
 | [],k,x,h,j,hj=>by cases h
 |a::r,0,x,h,j,hj=>by
  grind
 |a::r,k+1,x,h,j,hj=>by rw[dR,iI zw,hf,show(k+1)*s+j-s=k*s+j by grind];exact jB hf r k x zw j hj
theorem xJ{α β:Type}{f:α->List β}{m:Nat}:∀(xs:List α),(∀x∈xs,(f x).length<=m)->(xs.flatMap f).length<=xs.length*m
 | [],_=>by simp
 |a::r,h=>by
  rw[dR,ax,bE,Nat.succ_mul];have:=xJ r (λx hx=>h x (kd _ hx))
  grind
theorem tS{α β:Type}(f:α->List β){xs:List α}{x:α}(h:xs[k]?=some x):(xs.take (k+1)).flatMap f=(xs.take k).flatMap f++f x:=by rw[eK,h,iH];simp
theorem Qx{v:Pl.Vl}(h:VlB v):(Pl.nI v).length<=257:=by unfold Pl.nI Pl.short;have:=h.2.2;split<;>simp[Pl.aG]<;>omega
def Off:Prop:=∀p,A=some p->p.block<w.heap.size/\v.ownBlock≠some p.block
theorem Off.src{w w':World}{v v':Value}{A:Option Addr}{cs:List Value}(h:Off w v A)(m:Mv w w' v v')(hs:Src w A cs):Src w' A cs:=m.only.src hs (λp hp=>(h p hp).2)
theorem HU(aB:Nat)(row:List Pl.Vl)(aq:Nat)(w:World)(bI:Ob w aq v l)(de:aq<=w.heap.size)(hl:l.length<=274877906944)(hs:Src w A (vcs row))(wG:Off w v A)
 (hx:∀x∈row,VlB x) (hr:row.length<256):
 bG 222 #[v,.slice A row.length aB] w (Wr w aq v (l++Pl.l6 row)):=by
 obtain⟨n,hn⟩:=ze row.length;have acB:n<256:=zo;have w1:=wrap_u8 acB;obtain⟨H1,H2,H3,H4,H6⟩:=OW (bI.alloc (.cells #[.int .u8 (n:Int)] 5)) (lH w n acB) (iV de (.cells #[.int .u8 (n:Int)] 5)) ((Mv.refl w v).alloc (.cells #[.int .u8 (n:Int)] 5)) (show l.length+1<=70368744177664 by omega);rw[hn];clear bI de hr;go_enter Tryz.func222,Tryz.ntmps222;go_wp2_with (first
  |(at_builtin
    refine ic (v:=v) rfl (.tmp 7) (.tmp 11) rfl rfl H1 (some ⟨w.heap.size,0,none⟩) 1 1 [UInt8.ofNat n] rfl rfl H2 H6 H3 ?_;intro v2 w2 o2 m2;have o2:=zi o2;have m2:=zi m2)
  |fail)
 go_loopw [0,15] (λu i wr=>∃k:Nat,k<=n/\i= .int .i64 (k:Int)/\Hid (Ob wr aq u (l++UInt8.ofNat n::(row.take k).flatMap Pl.nI))/\Hid (Mv w wr v u)/\Hid (aq<=wr.heap.size)) (λ_ i _=>n-(intOf i).toNat)
 case atStart=>exact⟨0,aM _,rfl,(by simpa [Hid] using o2:Hid _),H4.trans m2,ao H3 m2.1.size⟩
 case round=>
  obtain⟨k,hk,rfl,HO,HM,HB⟩:=hrel;by_cases pX:k<n
  ·have q1:(k:Int)<(n:Int):=zo;obtain⟨x,hc⟩:∃c,row[k]?=some c:=⟨_,aF (by rw[hn];exact pX)⟩;have mM:=wG.src HM hs;have dm:=jB (f:=vc) (s:=3) (λ_=>rfl) row k x hc;obtain⟨b,off,rfl,g0⟩:=mM.dm _ _ (dm 0 zo);have g1:=mM.cell _ _ (dm 1 zo);have g2:=mM.cell _ _ (dm 2 zo);rw[<-ew]at g1 g2;rw[cI]at g0;have hf:=xJ (f:=Pl.nI) (m:=257) (row.take k) (λy hy=>Qx (hx y (mQ hy)));have ht:(row.take k).length<=256:=by rw[aP];omega
   have bU:Hid ((l++UInt8.ofNat n::(row.take k).flatMap Pl.nI).length<=549755813888):=by rw[Hid,ax,bE];have:=hl;omega
   have HV:=zi (JG u0 _ x aq (wr.alloc (.cells #[.int .i64 (x.ty:Nat),.int .i64 (sig x.n),.string (ar x.s)] 88)) (HO.alloc _) (iV HB _) bU (hx x (bO hc)));clear mM dm hf ht;go_wp2_with fail;refine HV.mono ?_;rintro e w3 ⟨v3,rfl,o3,m3⟩;have rS:Hid (Ob w3 aq v3 (l++UInt8.ofNat n::(row.take (k+1)).flatMap Pl.nI)):=by rw[Hid,tS _ hc];simpa using o3
   obtain⟨HM3,eI⟩:=dz ((HM.alloc _).trans m3) (ao HB (ao zu m3.1.size));clear o3 m3;go_wp2_with fail;exact⟨⟨k+1,zo,by go_num,rS,HM3,eI⟩,by simp[intOf];omega⟩
  ·obtain rfl:k=n:=zo;have kJ:Hid (Ob wr aq u0 (l++Pl.l6 row)):=by have:=HO.out;rw[dx (by rw[hn];exact ai _)]at this;rw[Hid];unfold Pl.l6;rw[hn];exact this
   clear HO;go_wp2_with fail;go_ret;exact⟨_,rfl,kJ,HM⟩
def dn(cs:List Value)(t:TypeId):Prop:=Src w A cs/\∀p,A=some p->jh w p.block t
theorem jh.only{F:Nat->Prop}{w:World}{ts:List TypeId}(h:jh w k t)(ho:ag F w w')(hF:bR F w ts)(ht:t∉ts):jh w' k t:=by obtain⟨cs,fz,hk⟩:=h;refine⟨cs,fz,(ho.block k zw (λhf=>?_)).trans hk⟩;obtain⟨t',h1,h2⟩:=hF k hf;exact ht (jh.dv ⟨cs,fz,hk⟩ h2▸h1)
theorem dn.only{F:Nat->Prop}{w w':World}{A:Option Addr}{cs:List Value}{t:TypeId}{ts:List TypeId}(h:dn w A cs t)(ho:ag F w w')(hF:bR F w ts)(ht:t∉ts):dn w' A cs t:=
 ⟨ho.src h.1 (λp hp hf=>by obtain⟨t',h1,h2⟩:=hF _ hf;exact ht ((h.2 p hp).dv h2▸h1)),λp hp=>(h.2 p hp).only ho hF ht⟩
theorem gG:bR (λ_=>False) w []:=λ_ h=>h.elim
theorem dn.aa{w:World}{A:Option Addr}{cs:List Value}(h:dn w A cs t)(hb:dP w w'):dn w' A cs t:=h.only (ag.ae hb (λ_=>False)) (gG w) zu
def gQ(p:Pl.Pr):List Value:=[.string (ar p.key),.string (ar p.val)]
def bu:List Value:=ps.flatMap gQ
def bo:List Value:=ks.map λk=> .string (ar k)
def dJ(r:Nat):Value:= .pointer (some ⟨r,0,none⟩)
def aS:List Value:=rs.map dJ
def fZ:Prop:=∃A aB,ay w b 346 [.slice A ps.length aB]/\ps.length<=aB/\dn w A (bu ps) 399
def dZ:Prop:=
 ∃A aB A' cap',ay w b 383 [.slice A ks.length aB,.slice A' rs.length cap']/\ks.length<=aB/\rs.length<=cap'/\dn w A (bo ks) 9/\dn w A' (aS rs) 160
theorem fZ.only{F:Nat->Prop}{w w':World}{b:Nat}{ps:List Pl.Pr}{ts:List TypeId}(h:fZ w b ps)(ho:ag F w w')(hF:bR F w ts)(h1:346∉ts)(h2:399∉ts):fZ w' b ps:=by obtain⟨A,aB,hb,hc,hs⟩:=h;exact⟨A,aB,ho.cY hF hb h1,hc,hs.only ho hF h2⟩
theorem dZ.only{F:Nat->Prop}{w w':World}{b:Nat}{ks:List Pl.Key}{rs:List Nat}{ts:List TypeId}(h:dZ w b ks rs)(ho:ag F w w')(hF:bR F w ts)(h1:383∉ts)(h2:9∉ts)(h3:160∉ts):dZ w' b ks rs:=by obtain⟨A,aB,A',cap',hb,hc,hc',hs,TU⟩:=h;exact⟨A,aB,A',cap',ho.cY hF hb h1,hc,hc',hs.only ho hF h2,TU.only ho hF h3⟩
inductive Pg where
 |leaf (ps:List Pl.Pr)
 |inner (ks:List Pl.Key) (rs:List Nat)
def fR:Value:= .iface 343 (.pointer (some ⟨b,0,none⟩))
def eG:Value:= .iface 377 (.pointer (some ⟨b,0,none⟩))
def iq:Pg->Prop
 | .leaf ps=>∃b,v=fR b/\fZ w b ps
 | .inner ks rs=>∃b,v=eG b/\dZ w b ks rs
def er:List TypeId:=[346,399,383,9,160]
theorem iq.only{F:Nat->Prop}{w w':World}{v:Value}{pg:Pg}{ts:List TypeId}(h:iq w v pg)(ho:ag F w w')(hF:bR F w ts)(ht:∀t∈er,t∉ts):iq w' v pg:=by
 cases pg with
 |leaf ps=>obtain⟨b,rfl,h⟩:=h;exact⟨b,rfl,h.only ho hF (ht _ (by simp[er])) (ht _ (by simp[er]))⟩
 |inner ks rs=>obtain⟨b,rfl,h⟩:=h;exact⟨b,rfl,h.only ho hF (ht _ (by simp[er])) (ht _ (by simp[er])) (ht _ (by simp[er]))⟩
theorem iq.aa{w:World}{v:Value}{pg:Pg}(h:iq w v pg)(hb:dP w w'):iq w' v pg:=h.only (ag.ae hb (λ_=>False)) (gG w) zu
theorem fZ.aa{w:World}{b:Nat}{ps:List Pl.Pr}(h:fZ w b ps)(hb:dP w w'):fZ w' b ps:=h.only (ag.ae hb (λ_=>False)) (gG w) zu zu
theorem dZ.aa{w:World}{b:Nat}{ks:List Pl.Key}{rs:List Nat}(h:dZ w b ks rs)(hb:dP w w'):dZ w' b ks rs:=h.only (ag.ae hb (λ_=>False)) (gG w) zu zu zu
theorem EE(p:Pl.Pr)(w:World)(h:Pl.tL p<=1000):
 bG 332 #[.agg #[.string (ar p.key),.string (ar p.val)]] w λe w'=>e= .returned (.int .i64 (Pl.tL p:Nat))/\dP w w':=by
 obtain⟨k,v⟩:=p;unfold Pl.tL at h|-
 dsimp only at h|-
 have hk:(ar k).size=k.length:=bK k;have hv:(ar v).size=v.length:=bK v;obtain⟨w1,dj,aI⟩:=zF w (.cells #[.string (ar k),.string (ar v)] 399);have B1:ay w1 w.heap.size 399 [.string (ar k),.string (ar v)]:=by rw[<-dj];exact ay.new w 399 _
 obtain⟨c0,c1,_,_⟩:=aO B1;go_enter Tryz.func332,Tryz.ntmps332;go_wp2_with fail;go_ret;exact⟨by congr 2,aI⟩
theorem zR{ps:List Pl.Pr}(h:ps[k]?=some p):Pl.j5 (ps.take (k+1))=Pl.j5 (ps.take k)+Pl.tL p:=by rw[eK,h];exact Pl.CY _ _
theorem xu(k:Nat):Pl.j5 (ps.take k)<=Pl.j5 ps:=by have:=Pl.XL (List.take_sublist k ps);rw[Pl.vm,Pl.vm];omega
theorem vy{ps:List Pl.Pr}(h:p∈ps):Pl.tL p+3<=Pl.j5 ps:=by
 induction ps with
 |nil=>cases h
 |cons a r ih=>
  rcases cV.1 h with rfl|h
  ·simp[Pl.j5];omega
  ·have:=ih h;simp[Pl.j5]at this|-;omega
theorem iP:ps.length*2+3<=Pl.j5 ps:=by
 induction ps with
 |nil=>simp[Pl.j5]
 |cons a r ih=>simp[Pl.j5,Pl.tL]at ih|-;omega
theorem Zk(w:World)(h:fZ w b ps)(hsz:Pl.j5 ps<=1000):
 bG 384 #[.pointer (some ⟨b,0,none⟩)] w λe w'=>e= .returned (.int .i64 (Pl.j5 ps:Nat))/\dP w w':=by
 obtain⟨A,aB,hb,hc,hs,ht⟩:=h;obtain⟨n,hn⟩:=ze ps.length;have bU:=iP ps;have afF:n<=500:=zo;obtain⟨c0,_⟩:=bP hb;rw[hn]at c0;go_enter Tryz.func384,Tryz.ntmps384;go_wp2_with fail
 go_loopw [3,11] (λt i wr=>∃k:Nat,k<=n/\i= .int .i64 (k:Int)/\t= .int .i64 (Pl.j5 (ps.take k):Nat)/\Below w.heap.size w wr) (λ_ i _=>n-(intOf i).toNat)
 case atStart=>exact⟨0,aM _,rfl,rfl,ak _ _⟩
 case round=>
  obtain⟨k,hk,rfl,rfl,jN⟩:=hrel;by_cases pX:k<n
  ·have q1:(k:Int)<(n:Int):=zo;obtain⟨p,hp⟩:∃p,ps[k]?=some p:=⟨_,aF (by rw[hn];exact pX)⟩;have Y6:=bO hp;have dm:=jB (f:=gQ) (s:=2) (λ_=>rfl) ps k p hp;have mM:=hs.aa jN;obtain⟨b2,off,rfl,g0⟩:=mM.dm _ _ (dm 0 zo);have g1:=mM.cell _ _ (dm 1 zo);rw[<-ew]at g1;rw[cI]at g0;have uB:(Pl.j5 (ps.take (k+1))=Pl.j5 (ps.take k)+Pl.tL p):=zR hp;have hle:=xu ps (k+1);have NW:=vy Y6;obtain⟨t,ht⟩:=ze (Pl.j5 (ps.take k));obtain⟨m,hm⟩:=ze (Pl.tL p);have J6:t+m<=1000:=zC uB hsz;have HP:=λW=>EE p W (zA hsz);rw[ht];rw[hm]at HP;obtain⟨b5,nB⟩:=ze wr.heap.size;go_wp2_with fail;refine(HP _).mono ?_;rintro e w3 ⟨rfl,bg⟩;have eI:=((ak wr.heap.size wr).alloc (ai _) _).trans (bg.mono zu);go_wp2_with fail
   go_round
   case rel=>exact⟨k+1,zo,zu,by rw[uB,ht,hm];simp,jN.trans (eI.mono jN.size)⟩
   case measure=>simp[intOf];omega
  ·go_wp2_with fail;go_ret;have:k=n:=zo;subst this;have e:=gN (l:=ps);rw[hn]at e;exact⟨by rw[e];rfl,jN⟩
end Go.Proofs.YtbhpofdafhahgaaGreatDoor
