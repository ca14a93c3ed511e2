/- Part 12: PgG PgH PgI PgJ PgK PgL PgM. -/
import Derived.Lib.MinMaxS
import Derived.Test.YtbhpofdafhahgaaGreatDoorMq9
set_option linter.all false
set_option maxHeartbeats 8000000
set_option maxRecDepth 100000
namespace Go.Proofs.YtbhpofdafhahgaaGreatDoor
open Go.RowKit
variable {k:Pl.Key} {ks:List Pl.Key} {i:Nat} {ps:List Pl.Pr}
variable (K:FuncId) (cg args:Array Value) (b g1 g2 n:Nat) (p:Nat->Bool) (w W:World)
theorem xr(a b:Pl.Key):Op.bytesLess (ar a).toList (ar b).toList=decide (a<b):=by rw[Proofs.bytesLess_eq,Lib.toList_data,Lib.toList_data];rfl
theorem Ut(hn:n<4294967296)(hK:∀(args:Array Value) (W:World),(callFunc K args).run Tryz.prog W= .ok (.enter K args) W)
 (hf:∀(W:World) (i:Nat),dP w W->i<n->bG K (#[.int .i64 (i:Nat)]++cg) W λe W'=>e= .returned (.bool (p i))/\dP W W')
 (hm:∀a b,a<=b->b<n->p a=true->p b=true):
 bG 331 #[.int .i64 (n:Nat),.func (.func K) #[] cg] w λe w'=>∃m:Nat,e= .returned (.int .i64 (m:Nat))/\m<=n/\(∀t,t<m->p t=false)/\(∀t,m<=t->t<n->p t=true)/\dP w w':=by
 have HM:=zi hm;clear hm;go_enter Tryz.func331,Tryz.ntmps331;go_wp2_with fail
 go_loopw [5,6] (λa b wr=>∃lo hi:Nat,a= .int .i64 (lo:Nat)/\b= .int .i64 (hi:Nat)/\lo<=hi/\hi<=n/\Hid (Below w.heap.size w wr)/\Hid ((∀t,t<lo->p t=false)/\∀t,hi<=t->t<n->p t=true)) (λa b _=>(intOf b).toNat-(intOf a).toNat)
 case atStart=>exact⟨0,n,rfl,rfl,aM _,ai _,ak _ _,λt ht=>absurd ht (Ci _),λt h1 h2=>by omega⟩
 case round=>
  obtain⟨lo,hi,rfl,rfl,h1,h2,HB,HI⟩:=hrel;by_cases hlt:lo<hi
  ·have q1:(lo:Int)<(hi:Int):=zo;have HC:=hf wr ((lo+hi)/2) HB zo;rw[show(((lo+hi)/2:Nat):Int)=((lo:Int)+(hi:Int))/2 by omega]at HC;cases hp:p ((lo+hi)/2)
   all_goals
    have HP:=zi hp;rw[hp]at HC;clear hp;go_wp2_with fail;refine HC.mono ?_;rintro e w3 ⟨rfl,bg⟩;have eI:=zi (HB.trans (bg.mono HB.size));go_wp2_with fail
   ·refine⟨⟨(lo+hi)/2+1,hi,by congr 1,rfl,zo,h2,eI,λt ht=>?_,HI.out.2⟩,by simp[intOf];omega⟩;cases hpt:p t
    ·rfl
    ·have:=HM.out t ((lo+hi)/2) zo zo hpt;rw[HP.out]at this;cases this
   ·exact⟨⟨lo,(lo+hi)/2,rfl,by congr 1,zo,zo,eI,HI.1,λt h3 h4=>HM _ t h3 h4 HP⟩,by simp[intOf];omega⟩
  ·obtain rfl:lo=hi:=zo;go_wp2_with fail;go_ret;exact⟨lo,rfl,h2,HI.1,HI.2,HB⟩
theorem Tk(hn:n<4294967296)(hK:∀(args:Array Value) (W:World),(callFunc K args).run Tryz.prog W= .ok (.enter K args) W)
 (hf:∀(W:World) (i:Nat),dP w W->i<n->bG K (#[.int .i64 (i:Nat)]++cg) W λe W'=>e= .returned (.bool (p i))/\dP W W')
 (hm:∀a b,a<=b->b<n->p a=true->p b=true):
 bG 326 #[.int .i64 (n:Nat),.func (.func K) #[] cg] w λe w'=>∃m:Nat,e= .returned (.int .i64 (m:Nat))/\m<=n/\(∀t,t<m->p t=false)/\(∀t,m<=t->t<n->p t=true)/\dP w w':=by
 have H:=Ut K cg n p w hn hK hf hm;go_enter Tryz.func326,Tryz.ntmps326;go_wp2_with fail;refine H.mono ?_;rintro e w3 ⟨m,rfl,h1,h2,h3,h4⟩;go_wp2_with fail;go_ret;exact⟨m,rfl,h1,h2,h3,h4⟩
def gtB(k:Pl.Key)(ks:List Pl.Key)(i:Nat):Bool:=match ks[i]? with|some x=>decide (k<x)|none=>false
theorem II{x:Pl.Key}(h:ks[i]?=some x):gtB k ks i=decide (k<x):=by unfold gtB;rw[h]
theorem VF:(callFunc 328 args).run Tryz.prog W= .ok (.enter 328 args) W:=by simp[go_sem]
theorem OO:(callFunc 327 args).run Tryz.prog W= .ok (.enter 327 args) W:=by simp[go_sem]
theorem adU(ks:List Pl.Key)(rs:List Nat)(k:Pl.Key)(i:Nat)(w:World)(h:dZ w b ks rs)(h1:ay w g1 377 [.pointer (some ⟨b,0,none⟩)])(h2:ay w g2 9 [.string (ar k)])(hi:i<ks.length):
 bG 328 #[.int .i64 (i:Nat),.pointer (some ⟨g1,0,none⟩),.pointer (some ⟨g2,0,none⟩)] w λe w'=>e= .returned (.bool (gtB k ks i))/\dP w w':=by
 obtain⟨A,aB,A',cap',hb,hs,TU⟩:=h.refs;obtain⟨x,hx⟩:∃x,ks[i]?=some x:=⟨_,aF hi⟩;obtain⟨b2,off,rfl,g0⟩:=hs.dm _ _ (vJ hx);obtain⟨c0,_,_,_⟩:=aO hb;obtain⟨d0,_⟩:=bP h1;obtain⟨e0,_⟩:=bP h2;rw[II hx];obtain⟨n,hn⟩:=ze ks.length;rw[hn]at c0 hi;have l1:=xr x k;have l2:=qU x k;have hv:(Op.bytesLess (ar x).toList (ar k).toList||(ar x).toList==(ar k).toList)=!decide (k<x):=by
  rw[l1,l2];by_cases Gx:k<x
  ·rw[aQ Gx,aH (Pl.Vj Gx)];simp[b9,(Pl.kne Gx).symm]
  ·rw[aH Gx];by_cases hxk:x<k
   ·rw[aQ hxk];rfl
   ·rw[Pl.aqV hxk Gx];simp
 obtain⟨st,hst⟩:=ze (ar k);obtain⟨sx,Gn⟩:=ze (ar x);rw[hst]at e0 hv;rw[Gn]at g0 hv;have Pk:(i:Int)<(n:Int):=zo;cases hd:decide (k<x)
 all_goals
  rw[hd]at hv;simp only[Bw,Bool.not_false]at hv;go_enter Tryz.func328,Tryz.ntmps328;go_wp2_with fail;go_quiet (fail);go_wp2_with fail;go_ret;exact⟨rfl,below_drewN (ak _ _) _⟩
def geB(k:Pl.Key)(ps:List Pl.Pr)(i:Nat):Bool:=match ps[i]? with|some p=>!decide (p.key<k)|none=>false
theorem Jq{p:Pl.Pr}(h:ps[i]?=some p):geB k ps i=!decide (p.key<k):=by unfold geB;rw[h]
theorem Wj(ps:List Pl.Pr)(k:Pl.Key)(i:Nat)(w:World)(h:fZ w b ps)(h1:ay w g1 343 [.pointer (some ⟨b,0,none⟩)])(h2:ay w g2 9 [.string (ar k)])(hi:i<ps.length):
 bG 327 #[.int .i64 (i:Nat),.pointer (some ⟨g1,0,none⟩),.pointer (some ⟨g2,0,none⟩)] w λe w'=>e= .returned (.bool (geB k ps i))/\dP w w':=by
 obtain⟨A,aB,hb,hc,hs⟩:=h;obtain⟨p,hp⟩:∃p,ps[i]?=some p:=⟨_,aF hi⟩;have dm:=jB (f:=gQ) (s:=2) (λ_=>rfl) ps i p hp;obtain⟨b2,off,rfl,g0⟩:=hs.1.dm _ _ (dm 0 zo);rw[cI]at g0;obtain⟨c0,_⟩:=bP hb;obtain⟨d0,_⟩:=bP h1;obtain⟨e0,_⟩:=bP h2;rw[Jq hp];obtain⟨n,hn⟩:=ze ps.length;rw[hn]at c0 hi;have hv:=xr p.key k;obtain⟨st,hst⟩:=ze (ar k);obtain⟨sx,Gn⟩:=ze (ar p.key);rw[hst]at e0 hv;rw[Gn]at g0 hv;have Pk:(i:Int)<(n:Int):=zo;cases hd:decide (p.key<k)
 all_goals
  rw[hd]at hv;go_enter Tryz.func327,Tryz.ntmps327;go_wp2_with fail;go_quiet (fail);go_wp2_with fail;go_ret;exact⟨by simp[hv],below_drewN (ak _ _) _⟩
theorem V9:∀{m:Nat},m<=ks.length->(∀t,t<m->gtB k ks t=false)->(∀t,m<=t->t<ks.length->gtB k ks t=true)->Pl.gY ks k=m:=by
 intro m hm h1 h2;unfold Pl.gY
 induction ks generalizing m with
 |nil=>simp_all
 |cons x ks ih=>
  rw[jZ];cases m with
  |zero=>
   have:=h2 0 (ai _) zu;rw[II (x:=x) rfl]at this
   grind
  |succ m=>have:=h1 0 zo;rw[II (x:=x) rfl]at this;rw[ah zw,bE,ih (m:=m) zw (λt ht=>h1 (t+1) zo) (λt h3 h4=>h2 (t+1) zo (by simpa using h4))]
theorem Ps:∀{m:Nat},m<=ps.length->(∀t,t<m->geB k ps t=false)->(∀t,m<=t->t<ps.length->geB k ps t=true)->Pl.aR ps k=m:=by
 intro m hm h1 h2;unfold Pl.aR
 induction ps generalizing m with
 |nil=>simp_all
 |cons x ks ih=>
  rw[jZ];cases m with
  |zero=>
   have:=h2 0 (ai _) zu;rw[Jq (p:=x) rfl]at this
   grind
  |succ m=>have:=h1 0 zo;rw[Jq (p:=x) rfl]at this;rw[ah zw,bE,ih (m:=m) zw (λt ht=>h1 (t+1) zo) (λt h3 h4=>h2 (t+1) zo (by simpa using h4))]
theorem adZ(hs:ks.Pairwise (·<·)):∀a b,a<=b->b<ks.length->gtB k ks a=true->gtB k ks b=true:=by
 intro a b h1 h2 h3;rw[II (aF (by omega:a<ks.length))]at h3;rw[II (aF h2)];rcases eJ a b with h4|h4
 ·exact aQ (Pl.vd (jd h3) (oO.1 hs a b zo h2 h4))
 ·obtain rfl:a=b:=zo;exact h3
theorem abN(hs:Pl.qu ps):∀a b,a<=b->b<ps.length->geB k ps a=true->geB k ps b=true:=by
 intro a b h1 h2 h3;rw[Jq (aF (by omega:a<ps.length))]at h3;rw[Jq (aF h2)];rcases eJ a b with h4|h4
 ·have h5:=oO.1 hs a b zo h2 h4;simp only[Bool.not_eq_true',decide_eq_false_iff_not]at h3|-
  exactλh6=>h3 (Pl.vd h5 h6)
 ·obtain rfl:a=b:=zo;exact h3
namespace Pl
def ST:Nat->Type
 |0=>Nat
 |h+1=>Nat×List (ST h)
def top:(h:Nat)->ST h->Nat
 |0,(s:Nat)=>s
 |_+1,s=>s.1
def fg:(h:Nat)->ST h->List Nat
 |0,(s:Nat)=> [s]
 |h+1,(s:Nat×List (ST h))=>s.1::s.2.flatMap (fg h)
def yJ(D:Nat->Option (List UInt8))(n:Nat):(h:Nat)->ST h->Tr h->Prop
 |0,(s:Nat),(ps:List Pr)=>2<=s/\s<n/\D s=some (l5 (eV ps))
 |h+1,(s:Nat×List (ST h)),(t:List Key×List (Tr h))=>2<=s.1/\s.1<n/\D s.1=some (l5 (nj t.1 (s.2.map (top h))))/\s.2.length=t.2.length/\∀(i:Nat) (a:ST h) (c:Tr h),s.2[i]?=some a->t.2[i]?=some c->yJ D n h a c
theorem yJ.bounds{D:Nat->Option (List UInt8)}{n:Nat}:(h:Nat)->(s:ST h)->(t:Tr h)->yJ D n h s t->2<=top h s/\top h s<n
 |0,_,_,h=>⟨h.1,h.2.1⟩
 |_+1,_,_,h=>⟨h.1,h.2.1⟩
theorem Oe:(h:Nat)->(s:ST h)->top h s∈fg h s
 |0,_=>dU.2 rfl
 |_+1,_=>List.mem_cons_self ..
theorem acK{h:Nat}{s:ST (h+1)}{a:ST h}{i:Nat}(ha:s.2[i]?=some a){j:Nat}(hj:j∈fg h a):j∈fg (h+1) s:=
 kd _ (lQ.2 ⟨a,bO ha,hj⟩)
theorem yJ.congr{D D':Nat->Option (List UInt8)}{n:Nat}:(h:Nat)->(s:ST h)->(t:Tr h)->(∀j∈fg h s,D' j=D j)->yJ D n h s t->yJ D' n h s t
 |0,s,_,hj,h=>⟨h.1,h.2.1,(hj _ (Oe 0 s)).trans h.2.2⟩
 |k+1,s,_,hj,h=>⟨h.1,h.2.1,(hj _ (Oe (k+1) s)).trans h.2.2.1,h.2.2.2.1,λi a c ha hc=>yJ.congr k a c (λj hj'=>hj j (acK ha hj')) (h.2.2.2.2 i a c ha hc)⟩
theorem yJ.all{D:Nat->Option (List UInt8)}{n:Nat}:(h:Nat)->(s:ST h)->(t:Tr h)->yJ D n h s t->∀j∈fg h s,2<=j/\j<n/\∃x,D j=some x
 |0,s,_,h,j,hj=>by obtain rfl:j=s:=dU.1 hj;exact⟨h.1,h.2.1,_,h.2.2⟩
 |k+1,s,t,h,j,hj=>by
  rcases cV.1 hj with rfl|hj
  ·exact⟨h.1,h.2.1,_,h.2.2.1⟩
  ·obtain⟨a,ha,hj⟩:=lQ.1 hj;obtain⟨i,hi⟩:=lG.1 ha;obtain⟨hlt,_⟩:=cR.1 hi;exact yJ.all k a (t.2[i]'(h.2.2.2.1▸hlt)) (h.2.2.2.2 i a _ hi (aF _)) j hj
end Pl
variable {w w':World} {v:Value} {t:TypeId} {cs:List Value}
structure eH where
 lo:Nat
 old:Nat->Prop
variable [Inhabited eH]
def LO:Nat:=(default:eH).lo
def Zn(k:Nat):Prop:=LO<=k\/(default:eH).old k
abbrev cX(w:World)(r a:Nat)(v:Value):Prop:=ay w r 265 [.int .i64 (a:Nat),v]
abbrev Gh:=Nat->Option Pl.Any
def Ext(G G':Gh):Prop:=∀r x,G r=some x->G' r=some x
theorem Ext.refl(G:Gh):Ext G G:=λ_ _ h=>h
theorem Ext.trans{G G' G'':Gh}(h:Ext G G')(k:Ext G' G''):Ext G G'':=λr x hr=>k r x (h r x hr)
def fN(w:World)(G:Gh)(v:Value):(h:Nat)->Pl.Tr h->Option (Pl.ST h)->Prop
 |0,(ps:List Pl.Pr),_=>iq w v (.leaf ps)
 |h+1,(t:List Pl.Key×List (Pl.Tr h)),so=>∃rs,iq w v (.inner t.1 rs)/\rs.length=t.2.length/\(∀(i r:Nat) (c:Pl.Tr h),rs[i]?=some r->t.2[i]?=some c->G r=some ⟨h,c⟩)/\
   ∀s:Pl.ST (h+1),so=some s->∀(i r:Nat) (a:Pl.ST h),rs[i]?=some r->s.2[i]?=some a->∃pv,cX w r (Pl.top h a) pv
theorem fN.bare{G:Gh}:(h:Nat)->(t:Pl.Tr h)->(so:Option (Pl.ST h))->fN w G v h t so->fN w G v h t none
 |0,_,_,h=>h
 |_+1,_,_,⟨rs,h1,h2,h3,_⟩=>⟨rs,h1,h2,h3,zu⟩
theorem fN.ext{G G':Gh}(hG:Ext G G'):{h:Nat}->{t:Pl.Tr h}->{so:Option (Pl.ST h)}->fN w G v h t so->fN w G' v h t so
 |0,_,_,h=>h
 |_+1,_,_,⟨rs,h1,h2,h3,h4⟩=>⟨rs,h1,h2,λi r c hr hc=>hG _ _ zw,h4⟩
def oC:Value->Bool
 | .string _=>true
 | .bool _=>true
 | .iface _ _=>true
 |_=>false
theorem ay.plain{g:Nat}{p:Addr}{s:Value}(h:ay w g t cs)(hn:∀u∈cs,oC u=false)(hc:w.cell? p=some s)(hs:oC s=true):p.block≠g:=by
 intro e;subst e;unfold ay at h;unfold World.cell? at hc
 grind
structure iu(w w':World):Prop where
 only:∃F,ag F w w'/\bR F w [265,108]
 refs:∀r a v,cX w r a v->∃v',cX w' r a v'/\(v'=v\/v= .nilIface)
 ev:∀(p:Addr) (s:Value),oC s=true->w.cell? p=some s->w'.cell? p=some s
 low:ag Zn w w'
theorem iu.size{w w':World}(h:iu w w'):w.heap.size<=w'.heap.size:=by obtain⟨F,ho,_⟩:=h.only;exact ho.size
theorem iu.ae{w w':World}(h:dP w w'):iu w w':=⟨⟨λ_=>False,ag.ae h _,λ_ hk=>hk.elim⟩,λr a v hr=>⟨v,hr.aa h hr.lt,.inl rfl⟩,λp s _ hc=>(h.cell (dC _ _ hc)).trans hc,ag.ae h _⟩
theorem iu.refl(w:World):iu w w:= .ae (ak _ _)
theorem iu.trans{a b c:World}(h:iu a b)(k:iu b c):iu a c:=by
 obtain⟨F,h1,h2⟩:=h.only;obtain⟨F',k1,k2⟩:=k.only;refine⟨⟨λx=>F x\/(x<a.heap.size/\F' x),?_,?_⟩,λr x v hr=>?_,λp s hs hc=>k.ev p s hs (h.ev p s hs hc),h.low.aE k.low⟩
 ·exact(h1.mono zS).trans k1 zS
 ·rintro x (hx|⟨hx,hF⟩)
  ·exact h2 x hx
  ·rcases Classical.em (F x)with hf|hf
   ·exact h2 x hf
   ·obtain⟨t,ht,cs,fz,hcs⟩:=k2 x hF;exact⟨t,ht,cs,fz,(h1.block x hx hf).symm.trans hcs⟩
 ·obtain⟨v',h3,h4⟩:=h.refs r x v hr;obtain⟨v'',k3,k4⟩:=k.refs r x v' h3
  grind
theorem iu.aa{a b c:World}(h:iu a b)(k:dP b c):iu a c:=h.trans (.ae k)
theorem iu.aC(h:iu w w'){k:Nat}(hb:ay w k t cs)(h1:t≠265)(h2:t≠108):ay w' k t cs:=by obtain⟨F,ho,hF⟩:=h.only;exact ho.cY hF hb zw
theorem iu.pg(h:iu w w'){pg:Pg}(hp:iq w v pg):iq w' v pg:=by obtain⟨F,ho,hF⟩:=h.only;exact hp.only ho hF zj
theorem iu.eo(h:iu w w'){A:Option Addr}(hp:dn w A cs t)(h1:t≠265)(h2:t≠108):dn w' A cs t:=by obtain⟨F,ho,hF⟩:=h.only;exact hp.only ho hF zw
theorem fN.Ir{G G':Gh}(hf:iu w w')(hG:Ext G G'):{h:Nat}->{t:Pl.Tr h}->{so:Option (Pl.ST h)}->fN w G v h t so->fN w' G' v h t so
 |0,t,_,h=>hf.pg (pg:= .leaf t) h
 |_+1,_,_,⟨rs,h1,h2,h3,h4⟩=>⟨rs,hf.pg h1,h2,λi r c hr hc=>hG _ _ zw,λs hs i r a hr ha=>by
   obtain⟨pv,h5⟩:=h4 s hs i r a hr ha;obtain⟨pv',h6,_⟩:=hf.refs _ _ _ h5
   grind⟩
def Ls(w:World)(G:Gh)(D:Nat->Option (List UInt8))(n:Nat)(S:List Nat)(r:Nat)(h:Nat)(t:Pl.Tr h):Prop:=
 (∃v,cX w r 0 v/\fN w G v h t none)\/∃s v,cX w r (Pl.top h s) v/\Pl.yJ D n h s t/\(∀j∈Pl.fg h s,j∈S)/\(v= .nilIface\/fN w G v h t (some s))
def Inv(w:World)(G:Gh)(D:Nat->Option (List UInt8))(n:Nat)(S:List Nat):Prop:=∀r h t,G r=some ⟨h,t⟩->Ls w G D n S r h t
section
variable {w w':World} {G G':Gh} {D:Nat->Option (List UInt8)} {n:Nat} {S:List Nat}
theorem Ls.aC{r h:Nat}{t:Pl.Tr h}(hr:Ls w G D n S r h t):∃a v,cX w r a v:=by
 rcases hr with⟨v,h1,_⟩|⟨s,v,h1,_⟩
 ·exact⟨_,_,h1⟩
 grind
theorem Inv.lt(h:Inv w G D n S){r:Nat}{x:Pl.Any}(hr:G r=some x):r<w.heap.size:=by obtain⟨a,v,hb⟩:=(h r x.1 x.2 hr).aC;exact hb.lt
theorem Ls.aa{r h:Nat}{t:Pl.Tr h}(hr:Ls w G D n S r h t)(hb:dP w w')(hG:Ext G G'):Ls w' G' D n S r h t:=by
 rcases hr with⟨v,h1,h2⟩|⟨s,v,h1,h2,h3,h4⟩
 ·exact .inl ⟨v,h1.aa hb h1.lt,h2.Ir (.ae hb) hG⟩
 ·exact .inr ⟨s,v,h1.aa hb h1.lt,h2,h3,h4.imp id λh5=>h5.Ir (.ae hb) hG⟩
theorem Inv.aa(h:Inv w G D n S)(hb:dP w w'):Inv w' G D n S:=λr k t hr=>(h r k t hr).aa hb (Ext.refl G)
theorem Inv.only{F:Nat->Prop}{ts:List TypeId}(h:Inv w G D n S)(ho:ag F w w')(hF:bR F w ts)(h1:265∉ts)(h2:∀t∈er,t∉ts):Inv w' G D n S:=by
 have pg:∀{v:Value} (k:Nat) (t:Pl.Tr k) (so:Option (Pl.ST k)),fN w G v k t so->fN w' G v k t so:=by
  intro v k t so hp;cases k with
  |zero=>exact iq.only (pg:= .leaf t) hp ho hF h2
  |succ k=>
   obtain⟨rs,g1,g2,g3,g4⟩:=hp;exact⟨rs,g1.only ho hF h2,g2,g3,λs hs i r a hr ha=>by
    obtain⟨pv,h5⟩:=g4 s hs i r a hr ha;exact⟨pv,ho.cY hF h5 h1⟩⟩
 intro r k t hr;rcases h r k t hr with⟨v,g1,g2⟩|⟨s,v,g1,g2,g3,g4⟩
 ·exact .inl ⟨v,ho.cY hF g1 h1,zw⟩
 ·exact .inr ⟨s,v,ho.cY hF g1 h1,g2,g3,zw⟩
end
variable {G:Gh} {r n:Nat} {w:World} {D:Nat->Option (List UInt8)} {S:List Nat} {x:Pl.Any} {v:Value}
def Gh.add(G:Gh)(r:Nat)(x:Pl.Any):Gh:=λk=>if k=r then some x else G k
theorem Gh.abQ(G:Gh)(r:Nat)(x:Pl.Any):G.add r x r=some x:=ah rfl
theorem Gh.afC(x:Pl.Any)(h:G r=none):Ext G (G.add r x):=λk y hk=>by
 unfold Gh.add
 grind
theorem Inv.new(h:Inv w G D n S)(hr:w.heap.size<=r):G r=none:=by
 cases hg:G r with
 |none=>rfl
 |some x=>have:=h.lt hg;omega
theorem Inv.add{w w':World}{G:Gh}{D:Nat->Option (List UInt8)}{n:Nat}{S:List Nat}(hi:Inv w G D n S){v:Value}{h:Nat}{t:Pl.Tr h}(hv:fN w G v h t none)(hb:dP w w'){r:Nat}(hr:w.heap.size<=r)(hB:cX w' r 0 v):
 Inv w' (G.add r ⟨h,t⟩) D n S/\Ext G (G.add r ⟨h,t⟩):=by
 have hx:=Gh.afC ⟨h,t⟩ (hi.new hr);refine⟨λk h' t' hk=>?_,hx⟩;unfold Gh.add at hk;by_cases e:k=r
 ·rw[ah e]at hk;injection hk with hk;injection hk with e1 e2;subst e1;obtain rfl:=qQ e2;rw[e];exact .inl ⟨v,hB,hv.Ir (.ae hb) hx⟩
 ·rw[aj e]at hk;exact(hi k h' t' hk).aa hb hx
def Gh.kids(G:Gh)(lo h:Nat)(rs:List Nat)(cs:List (Pl.Tr h)):Gh:=λk=>if k<lo then G k else match(rs.zip cs).find? (λp=>p.1==k)with
 |some p=>some ⟨h,p.2⟩
 |none=>none
theorem Gh.JN{lo h k:Nat}{rs:List Nat}{cs:List (Pl.Tr h)}(hk:G.kids lo h rs cs k=some x):G k=some x\/lo<=k:=by
 unfold Gh.kids at hk
 grind
theorem Gh.afs{k:Nat}{y:Pl.Any}(hk:G.add r x k=some y):G k=some y\/k=r:=by
 unfold Gh.add at hk
 grind
theorem Iw{α:Type}:∀{rs:List Nat} {cs:List α} {i r:Nat} {c:α},rs.Pairwise (·<·)->rs[i]?=some r->cs[i]?=some c->(rs.zip cs).find? (λp=>p.1==r)=some (r,c)
 | [],_,_,_,_,_,h,_=>by grind
 |_::_,[],_,_,_,_,_,h=>by grind
 |x::rs,y::cs,0,r,c,_,h,k=>by simp_all
 |x::rs,y::cs,i+1,r,c,hp,h,k=>by obtain⟨h1,h2⟩:=lM.1 hp;have hr:rs[i]?=some r:=zw;have hlt:=h1 r zw;have hne:(x==r)=false:=zw;rw[List.zip_cons_cons,List.find?_cons];simp only[hne];exact Iw h2 hr zw
theorem Ho{α:Type}:∀{rs:List Nat} {cs:List α} {k:Nat} {p:Nat×α},(rs.zip cs).find? (λp=>p.1==k)=some p->p.1=k/\∃i:Nat,rs[i]?=some k/\cs[i]?=some p.2
 | [],_,_,_,h=>by simp at h
 |_::_,[],_,_,h=>by simp at h
 |x::rs,y::cs,k,p,h=>by
  rw[List.zip_cons_cons,List.find?_cons]at h;by_cases hx:(x==k)=true
  ·simp only[hx]at h;injection h with h;subst h;have e:x=k:=zw;exact⟨e,0,by simp[e],zu⟩
  ·simp only[hx]at h;obtain⟨h1,i,h2,h3⟩:=Ho h;exact⟨h1,i+1,zw,zw⟩
theorem Inv.kids{w w1:World}{G:Gh}{D:Nat->Option (List UInt8)}{n:Nat}{S:List Nat}(hi:Inv w G D n S)(hb:dP w w1){h:Nat}{rs ats:List Nat}{ss:List (Pl.ST h)}{cs:List (Pl.Tr h)}
 (ha:pY w1 w.heap.size rs ats) (s9:rs.length=cs.length) (yZ:ss.length=cs.length) (yT:ats=ss.map (Pl.top h)) (hD:∀(i:Nat) (a:Pl.ST h) (c:Pl.Tr h),ss[i]?=some a->cs[i]?=some c->Pl.yJ D n h a c) (hS:∀a∈ss,∀j∈Pl.fg h a,j∈S):
 Inv w1 (G.kids w.heap.size h rs cs) D n S/\Ext G (G.kids w.heap.size h rs cs)/\∀(i r:Nat) (c:Pl.Tr h),rs[i]?=some r->cs[i]?=some c->G.kids w.heap.size h rs cs r=some ⟨h,c⟩:=by
 have hx:Ext G (G.kids w.heap.size h rs cs):=λk x hk=>by unfold Gh.kids;rw[ah (hi.lt hk)];exact hk
 refine⟨λk h' t' hk=>?_,hx,λi r c hr hc=>?_⟩
 ·unfold Gh.kids at hk;by_cases fu:k<w.heap.size
  ·rw[ah fu]at hk;exact(hi k h' t' hk).aa hb hx
  ·rw[aj fu]at hk;split at hk
   ·next p hp=>
    injection hk with hk;injection hk with e1 e2;subst e1;obtain rfl:=qQ e2;obtain⟨_,i,h2,h3⟩:=Ho hp;obtain⟨hlt,_⟩:=cR.1 h3;obtain⟨a,hs⟩:∃a,ss[i]?=some a:=zS;exact .inr ⟨a,.nilIface,ha.dm i k _ h2 zw,zw,zw,.inl rfl⟩
   grind
 ·unfold Gh.kids;rw[aj (zA ((ha.lo r zw).1)),Iw ha.up hr hc]
theorem cX.dv{a a':Nat}{v':Value}(h:cX w r a v)(h':cX w r a' v'):a=a'/\v=v':=by
 have h2:=fB (Eq.trans (Eq.symm h) h')
 grind
theorem setRef{a:Nat}(h:cX w r a .nilIface)(v:Value)(fu:Zn r):cX (w.setCell ⟨r,1,none⟩ v) r a v/\iu w (w.setCell ⟨r,1,none⟩ v):=by
 have h1:cX (w.setCell ⟨r,1,none⟩ v) r a v:=h.bw 1 v;have ho:ag (·=r) w (w.setCell ⟨r,1,none⟩ v):=(ag.refl (·=r) w).setCell (p:=⟨r,1,none⟩) zu v;refine⟨h1,⟨⟨(·=r),ho,λk hk=>⟨_,zu,hk▸h.dV⟩⟩,λr' a' v' hr'=>?_,λp s hs hc=>ho.cell hc (h.plain (by simp[oC]) hc hs),ho.mono zS⟩⟩;by_cases e:r'=r
 ·subst e;obtain⟨e2,e3⟩:=cX.dv h hr'
  grind
 ·exact⟨v',ho.aC hr' e,.inl rfl⟩
theorem Inv.alf(hi:Inv w G D n S){h:Nat}{t:Pl.Tr h}{s:Pl.ST h}(hr:cX w r (Pl.top h s) .nilIface)(hG:G r=some ⟨h,t⟩)(hD:Pl.yJ D n h s t)(hS:∀j∈Pl.fg h s,j∈S)(hv:fN w G v h t (some s))(fu:Zn r):
 Inv (w.setCell ⟨r,1,none⟩ v) G D n S:=by
 obtain⟨h1,hf⟩:=setRef hr v fu;intro k h' t' hk;by_cases e:k=r
 ·subst e;rw[hG]at hk;injection hk with hk;injection hk with e1 e2;subst e1;obtain rfl:=qQ e2;exact .inr ⟨s,v,h1,hD,hS,.inr (hv.Ir hf (Ext.refl G))⟩
 ·rcases hi k h' t' hk with⟨v',g1,g2⟩|⟨s',v',g1,g2,g3,g4⟩
  ·exact .inl ⟨v',ag.aC ((ag.refl (·=r) w).setCell (p:=⟨r,1,none⟩) zu v) g1 e,g2.Ir hf (Ext.refl G)⟩
  ·exact .inr ⟨s',v',ag.aC ((ag.refl (·=r) w).setCell (p:=⟨r,1,none⟩) zu v) g1 e,g2,g3,g4.imp id λh5=>h5.Ir hf (Ext.refl G)⟩
end Go.Proofs.YtbhpofdafhahgaaGreatDoor
namespace Go.Proofs.YtbhpofdafhahgaaGreatDoor
open Go.RowKit
variable [Inhabited eH]
variable {g:Nat} {t:TypeId} {x:Pl.Key}
variable (p:Addr) (K:FuncId) (cg:Array Value) (v:Value) (lo:Pl.Key) (hi:Option Pl.Key) (gT k b n:Nat) (w:World) (ps:List Pl.Pr) (ks:List Pl.Key) (rs:List Nat)
theorem Oj(a b:Pl.Key):(Op.bytesLess (ar a).toList (ar b).toList||(ar a).toList==(ar b).toList)=!decide (b<a):=by
 rw[xr a b,qU a b]
 grind
theorem OQ(k:Pl.Key)(w:World)(h:dZ w b ks rs)(hs:ks.Pairwise (·<·))(hn:ks.length<=1000):
 bG 318 #[.pointer (some ⟨b,0,none⟩),.string (ar k)] w λe w'=>e= .returned (.int .i64 (Pl.gY ks k:Nat))/\dP w w':=by
 have JJ:=zf Tryz.prog;obtain⟨A,aB,A',cap',hb,_,_⟩:=h.refs;obtain⟨w1,dj⟩:=ze (w.alloc (.cells #[.pointer (some ⟨b,0,none⟩)] 377));obtain⟨w2,iA⟩:=ze (w1.alloc (.cells #[.string (ar k)] 9));have aI:=zb dj;have bz:=zb iA;have B1:ay w1 w.heap.size 377 [.pointer (some ⟨b,0,none⟩)]:=by rw[<-dj];exact ay.new w 377 _
 have B2:ay w2 w1.heap.size 9 [.string (ar k)]:=by rw[<-iA];exact ay.new w1 9 _
 have OK:=B1.aa bz B1.lt;have eC:=aI.trans (bz.mono aI.size);obtain⟨g1,nY⟩:=ze w.heap.size;obtain⟨g2,rQ⟩:=ze w1.heap.size;rw[nY]at OK;rw[rQ]at B2
 have H:=(Tk 328 #[.pointer (some ⟨g1,0,none⟩),.pointer (some ⟨g2,0,none⟩)] ks.length (gtB k ks) w2 zo (λa W=>VF a W)
  (λW i hW hi=>adU b g1 g2 ks rs k i W ((h.aa eC).aa hW) (OK.aa hW OK.lt) (B2.aa hW B2.lt) hi) (adZ hs))
 obtain⟨c0,_,_,_⟩:=aO (hb.aa eC hb.lt);obtain⟨d0,_⟩:=bP OK;obtain⟨n,GH⟩:=ze ks.length;rw[GH]at c0 H;go_enter Tryz.func318,Tryz.ntmps318;go_wp2_with fail;refine H.mono ?_;rintro e w3 ⟨m,rfl,h1,h2,h3,h4⟩;have eI:=eC.trans (h4.mono eC.size);have HM:(Pl.gY ks k=m):=V9 (by rw[GH];exact h1) h2 (λt h5 h6=>h3 t h5 (by rw[<-GH];exact h6));go_wp2_with fail;go_ret;exact⟨by rw[HM];rfl,eI⟩
theorem ET(k:Pl.Key)(w:World)(h:fZ w b ps)(hs:Pl.qu ps)(hn:ps.length<=1000):
 bG 317 #[.pointer (some ⟨b,0,none⟩),.string (ar k)] w λe w'=>e= .returned (.tuple #[.int .i64 (Pl.aR ps k:Nat),.bool (Pl.rD k ps)])/\dP w w':=by
 have JJ:=zf Tryz.prog;have hh:=h;obtain⟨A,aB,hb,hc,mM⟩:=hh;obtain⟨w1,dj⟩:=ze (w.alloc (.cells #[.pointer (some ⟨b,0,none⟩)] 343));obtain⟨w2,iA⟩:=ze (w1.alloc (.cells #[.string (ar k)] 9));have aI:=zb dj;have bz:=zb iA;have B1:ay w1 w.heap.size 343 [.pointer (some ⟨b,0,none⟩)]:=by rw[<-dj];exact ay.new w 343 _
 have B2:ay w2 w1.heap.size 9 [.string (ar k)]:=by rw[<-iA];exact ay.new w1 9 _
 have OK:=B1.aa bz B1.lt;have eC:=aI.trans (bz.mono aI.size);obtain⟨g1,nY⟩:=ze w.heap.size;obtain⟨g2,rQ⟩:=ze w1.heap.size;rw[nY]at OK;rw[rQ]at B2
 have H:=zi (Tk 327 #[.pointer (some ⟨g1,0,none⟩),.pointer (some ⟨g2,0,none⟩)] ps.length (geB k ps) w2 zo (λa W=>OO a W)
  (λW i hW hi=>Wj b g1 g2 ps k i W ((h.aa eC).aa hW) (OK.aa hW OK.lt) (B2.aa hW B2.lt) hi) (abN hs))
 obtain⟨c0,_⟩:=bP (hb.aa eC hb.lt);obtain⟨d0,_⟩:=bP OK;obtain⟨n,GH⟩:=ze ps.length;rw[GH]at c0 H;obtain⟨zW,HS⟩:=dz (hb.aa eC hb.lt) (mM.aa eC);clear h hs hb aI bz B1 hn mM hc;go_enter Tryz.func317,Tryz.ntmps317;go_wp2_with fail;refine H.mono ?_;rintro e w3 ⟨m,rfl,h1,h2,h3,h4⟩;have eI:=zi (eC.trans (h4.mono eC.size));have HM:Hid (Pl.aR ps k=m):=Ps (by rw[GH];exact h1) h2 (λt h5 h6=>h3 t h5 (by rw[<-GH];exact h6));obtain⟨c0,_⟩:=bP (zW.aa h4 zW.lt);rw[GH]at c0;obtain⟨d0,_⟩:=bP (OK.aa h4 OK.lt);obtain⟨e0,_⟩:=bP (B2.aa h4 B2.lt);have Je:=zi (HS.aa h4);have HH:Hid (Pl.rD k ps=match ps[m]? with|some p=>decide (p.key=k)|none=>false):=by rw[Hid];unfold Pl.rD;rw[HM.out];cases ps[m]?<;>rfl
 clear h2 h3 h4 H;by_cases hmn:m<n
 ·obtain⟨p,hp⟩:∃p,ps[m]?=some p:=⟨_,aF (by rw[GH];exact hmn)⟩;have dm:=jB (f:=gQ) (s:=2) (λ_=>rfl) ps m p hp;obtain⟨b2,off,rfl,g0⟩:=Je.1.dm _ _ (dm 0 zo);rw[cI]at g0;have q1:decide ((m:Int)<(n:Int))=true:=aQ zo;have q2:(m:Int)<(n:Int):=zo;have yj:=qU p.key k;have HH2:Hid (Pl.rD k ps=(p.key==k)):=by rw[Hid,HH.out,hp];by_cases h:p.key=k<;>simp[h]
  obtain⟨st,hst⟩:=ze (ar k);obtain⟨sx,Gn⟩:=ze (ar p.key);rw[hst]at e0 yj;rw[Gn]at g0 yj;have HQ:=zi yj;clear dm hp hst Gn yj HH;go_wp2_with fail;go_quiet (fail);go_wp2_with fail;go_ret2;exact⟨by rw[HM.out,HH2.out,HQ.out];rfl,below_drewN eI _⟩
 ·have q1:decide ((m:Int)<(n:Int))=false:=aH zo;have HH2:Hid (Pl.rD k ps=false):=by rw[Hid,HH.out,oK (by rw[GH];omega)]
  clear HH;go_wp2_with fail;go_quiet (fail);go_wp2_with fail;go_ret2;exact⟨by rw[HM.out,HH2.out];rfl,below_drewN eI _⟩
theorem sD(k:Pl.Key)(w:World)(h:Pl.ey k):bG 287 #[.string (ar k)] w λe w'=>e= .returned (.bool true)/\w=w':=by
 obtain⟨h1,h2⟩:=h;have hsz:=bK k;obtain⟨st,hst⟩:=ze (ar k);rw[hst]at hsz|-
 have q1:decide ((st.size:Int)>=1)=true:=aQ zo;have q2:decide ((st.size:Int)<=40)=true:=aQ zo;have q3:(1:Int)<=(st.size:Int):=zo;have q4:(st.size:Int)<=40:=zo;clear hsz hst h1 h2;go_enter Tryz.func287,Tryz.ntmps287;go_wp2_with fail;go_ret;exact⟨by first|rfl|simp[q3,q4],rfl⟩
theorem FW(k:List UInt8)(w:World)(h:k.length<=100):bG 288 #[.string (ar k)] w λe w'=>e= .returned (.bool true)/\w=w':=by
 have hsz:=bK k;obtain⟨st,hst⟩:=ze (ar k);rw[hst]at hsz|-
 have q4:(st.size:Int)<=100:=zo;clear hsz hst h;go_enter Tryz.func288,Tryz.ntmps288;go_wp2_with fail;go_ret;exact⟨by first|rfl|simp[q4],rfl⟩
def MK:List Value:=[.string (ar lo),.string (ar (hi.getD [])),.bool hi.isNone]
def iR:Value:= .agg #[.string (ar lo),.string (ar (hi.getD [])),.bool hi.isNone]
theorem iY{w:World}{a0 a1 a2:Value}(h:ay w g t [a0,a1,a2]):w.cell? ⟨g,0,none⟩=some a0/\w.cell? ⟨g,1,none⟩=some a1/\w.cell? ⟨g,2,none⟩=some a2/\w.frozen? ⟨g,0,none⟩=false/\w.frozen? ⟨g,1,none⟩=false/\w.frozen? ⟨g,2,none⟩=false:=⟨h.cell 0,h.cell 1,h.cell 2,h.frozen 0,h.frozen 1,h.frozen 2⟩
theorem YB(k:Pl.Key)(w:World)(h:Pl.Hc lo hi k):bG 289 #[iR lo hi,.string (ar k)] w λe w'=>e= .returned (.bool true)/\dP w w':=by
 obtain⟨w1,dj,aI⟩:=zF w (.cells #[.string (ar lo),.string (ar (hi.getD [])),.bool hi.isNone] 368);have B1:ay w1 w.heap.size 368 [.string (ar lo),.string (ar (hi.getD [])),.bool hi.isNone]:=by rw[<-dj];exact ay.new w 368 _
 obtain⟨c0,c1,c2,_,_,_⟩:=iY B1;have l1:=xr k lo;rw[aH h.1]at l1;have l2:(∀x,hi=some x->Op.bytesLess (ar k).toList (ar x).toList=true):=λx hx=>by rw[xr,aQ (h.2 x hx)]
 obtain⟨sk,hsk⟩:=ze (ar k);obtain⟨sl,yZ⟩:=ze (ar lo);rw[hsk]at l1 l2|-
 rw[yZ]at l1 c0 dj;unfold iR;rw[yZ];cases hi with
 |none=>
  simp only[Option.isNone_none,mE]at c1 c2 dj|-
  go_enter Tryz.func289,Tryz.ntmps289;go_wp2_with fail;go_ret;exact⟨rfl,aI⟩
 |some x=>
  have l3:=l2 x rfl;simp only[Option.isNone_some,lU]at c1 c2 dj|-
  obtain⟨sx,Gn⟩:=ze (ar x);rw[Gn]at l3 c1 dj|-
  go_enter Tryz.func289,Tryz.ntmps289;go_wp2_with fail;go_ret;exact⟨rfl,aI⟩
theorem qc{fn:Func}{t:Tmp}{tmps:Array Value}{w:World}{a b c:Value}(h:fn.results= #[.cell t 368])(ht:tmps.getD t undef= .pointer (some ⟨g,0,none⟩))(hB:ay w g 368 [a,b,c]):
 (results fn tmps).run Tryz.prog w= .ok (.agg #[a,b,c]) w:=by
 have c0:=hB.cell 0;have c1:=hB.cell 1;have c2:=hB.cell 2;simp only[aL,au]at c0 c1 c2;simp only[fF]at ht;simp[results,h,ht,go_sem,c0,c1,c2,asAddr]
theorem GD(i:Nat)(w:World)(h:dZ w b ks rs)(Pk:i<=ks.length)(hn:ks.length<=1000):
 bG 275 #[iR lo hi,.pointer (some ⟨b,0,none⟩),.int .i64 (i:Nat)] w λe w'=>e= .returned (iR (Pl.DW lo ks i) (Pl.wW hi ks i))/\Below w.heap.size w w':=by
 obtain⟨A,aB,A',cap',hb,hs,_⟩:=h.refs;obtain⟨sl,yZ⟩:=ze (ar lo);obtain⟨sh,CD⟩:=ze (ar (hi.getD []));obtain⟨w1,dj⟩:=ze (w.alloc (.cells #[.string sl,.string sh,.bool hi.isNone] 368));obtain⟨w2,iA⟩:=ze (w1.alloc (.cells #[.string ⟨#[]⟩,.string ⟨#[]⟩,.bool false] 368));have aI:=zb dj;have bz:=zb iA;have B1:ay w1 w.heap.size 368 [.string sl,.string sh,.bool hi.isNone]:=by rw[<-dj];exact ay.new w 368 _
 have B2:ay w2 w1.heap.size 368 [.string ⟨#[]⟩,.string ⟨#[]⟩,.bool false]:=by rw[<-iA];exact ay.new w1 368 _
 have OK:=B1.aa bz B1.lt;have eC:=aI.trans (bz.mono aI.size);have hne:w.heap.size≠w1.heap.size:=zA B1.lt;have yg:b<w.heap.size:=hb.lt;have mM:=hs.aa eC;obtain⟨c0,_,_,_⟩:=aO (hb.aa eC hb.lt);obtain⟨d0,d1,d2,e0,e1,e2⟩:=iY OK;obtain⟨p0,p1,p2,q0,q1,q2⟩:=iY B2;obtain⟨n,GH⟩:=ze ks.length;rw[GH]at c0 Pk hn;have eY:=zi B2;obtain⟨g1,nY⟩:=ze w.heap.size;obtain⟨g2,rQ⟩:=ze w1.heap.size;have K0:=zi nY;rw[nY]at d0 d1 d2 e0 e1 e2 OK hne yg;rw[rQ]at p0 p1 p2 q0 q1 q2 eY hne;obtain⟨bn,J9⟩:=ze hi.isNone;rw[J9]at d2 dj OK;have Gt:(g2<w2.heap.size/\g1<g2):=⟨eY.lt,by have:=aI.size;have:=B1.lt;omega⟩;have C9:Hid (Below g1 w w2):=by rw[Hid,<-K0.out];exact eC
 have Ol:g1<=g2:=iG Gt.2;unfold iR;rw[yZ,CD,J9];clear B2;by_cases yl:i<n
 ·obtain⟨x,hx⟩:∃x,ks[i]?=some x:=⟨_,aF (zA (id GH))⟩;have HHI:Hid (Pl.wW hi ks i=some x):=Pl.GM hx;obtain⟨b2,off,rfl,g0⟩:=mM.dm _ _ (vJ hx);have q4:(i:Int)<(n:Int):=zo;obtain⟨sx,Gn⟩:=ze (ar x);have HSX:=zi Gn;rw[Gn]at g0;clear Gn;by_cases yW:0<i
  ·have q3:(0:Int)<(i:Int):=zo;obtain⟨y,hy⟩:∃x,ks[i-1]?=some x:=⟨_,aF (zA (id GH))⟩;have yy:Hid (Pl.DW lo ks i=y):=by have:=Pl.sA (lo:=lo) hy;rw[Nat.sub_add_cancel yW]at this;exact this
   have g9:=mM.cell _ _ (vJ hy);obtain⟨sy,hsy⟩:=ze (ar y);have HSY:=zi hsy;rw[hsy]at g9;have q5:((i:Int)-1)=((i-1:Nat):Int):=zo;have q6:((i-1:Nat):Int)<(n:Int):=zo;clear hsy;go_enter Tryz.func275,Tryz.ntmps275;go_wp2_with fail;refine bH (v:= .agg #[.string sy,.string sx,.bool false]) (qc rfl rfl (ay.Nj (((eY.mK hne.symm _).mK hne.symm _).mK hne.symm _) _ _ _)) rfl ⟨by rw[yy.out,HHI.out];simp[HSY.out,HSX.out],?_⟩
   first|exact ju (((C9.setCell (p:=⟨g1,0,none⟩) (ai _) _).setCell (p:=⟨g1,1,none⟩) (ai _) _).setCell (p:=⟨g1,2,none⟩) (ai _) _) Ol (.string sy) (.string sx) (.bool false)|(rw[K0.out];exact ju (((C9.setCell (p:=⟨g1,0,none⟩) (ai _) _).setCell (p:=⟨g1,1,none⟩) (ai _) _).setCell (p:=⟨g1,2,none⟩) (ai _) _) Ol (.string sy) (.string sx) (.bool false))
  ·have q3:¬(0:Int)<(i:Int):=zo
   have yy:Hid (Pl.DW lo ks i=lo):=by obtain rfl:i=0:=zo;exact Pl.rj lo ks
   go_enter Tryz.func275,Tryz.ntmps275;go_wp2_with fail;refine bH (v:= .agg #[.string sl,.string sx,.bool false]) (qc rfl rfl (ay.Nj ((eY.mK hne.symm _).mK hne.symm _) _ _ _)) rfl ⟨by rw[yy.out,HHI.out];simp[yZ,HSX.out],?_⟩
   first|exact ju ((C9.setCell (p:=⟨g1,1,none⟩) (ai _) _).setCell (p:=⟨g1,2,none⟩) (ai _) _) Ol (.string sl) (.string sx) (.bool false)|(rw[K0.out];exact ju ((C9.setCell (p:=⟨g1,1,none⟩) (ai _) _).setCell (p:=⟨g1,2,none⟩) (ai _) _) Ol (.string sl) (.string sx) (.bool false))
 ·have HHI:Hid (Pl.wW hi ks i=hi):=Pl.XZ (zA GH);have q4:¬(i:Int)<(n:Int):=zo;by_cases yW:0<i
  ·have q3:(0:Int)<(i:Int):=zo;obtain⟨y,hy⟩:∃x,ks[i-1]?=some x:=⟨_,aF (zA (id GH))⟩;have yy:Hid (Pl.DW lo ks i=y):=by have:=Pl.sA (lo:=lo) hy;rw[Nat.sub_add_cancel yW]at this;exact this
   obtain⟨b2,off,rfl,g9⟩:=mM.dm _ _ (vJ hy);obtain⟨sy,hsy⟩:=ze (ar y);have HSY:=zi hsy;rw[hsy]at g9;have q5:((i:Int)-1)=((i-1:Nat):Int):=zo;have q6:((i-1:Nat):Int)<(n:Int):=zo;clear hsy;go_enter Tryz.func275,Tryz.ntmps275;go_wp2_with fail;refine bH (v:= .agg #[.string sy,.string sh,.bool bn]) (qc rfl rfl (ay.Nj (eY.mK hne.symm _) _ _ _)) rfl ⟨by rw[yy.out,HHI.out];simp[HSY.out,CD,J9],?_⟩
   first|exact ju (C9.setCell (p:=⟨g1,0,none⟩) (ai _) _) Ol (.string sy) (.string sh) (.bool bn)|(rw[K0.out];exact ju (C9.setCell (p:=⟨g1,0,none⟩) (ai _) _) Ol (.string sy) (.string sh) (.bool bn))
  ·have q3:¬(0:Int)<(i:Int):=zo
   have yy:Hid (Pl.DW lo ks i=lo):=by obtain rfl:i=0:=zo;exact Pl.rj lo ks
   go_enter Tryz.func275,Tryz.ntmps275;go_wp2_with fail;refine bH (v:= .agg #[.string sl,.string sh,.bool bn]) (qc rfl rfl (ay.Nj (eY) _ _ _)) rfl ⟨by rw[yy.out,HHI.out];simp[yZ,CD,J9],?_⟩
   first|exact ju (C9) Ol (.string sl) (.string sh) (.bool bn)|(rw[K0.out];exact ju (C9) Ol (.string sl) (.string sh) (.bool bn))
def vO:Nat->Pl.Key
 |0=> []
 |k+1=>ks.getD k []
theorem TG{ks:List Pl.Key}(h:ks.Pairwise (·<·))(h0:∀x∈ks,1<=x.length){k:Nat}(hx:ks[k]?=some x):vO ks k<x:=by
 cases k with
 |zero=>
  have:=h0 x (bO hx);cases x with
  |nil=>simp at this
  |cons a r=>exact List.nil_lt_cons a r
 |succ k=>obtain⟨hlt,rfl⟩:=cR.1 hx;show ks.getD k []<_;rw[tY,aF zo,lU];exact oO.1 h k (k+1) zo hlt zo
theorem Ib{ks:List Pl.Key}{k:Nat}(hx:ks[k]?=some x):vO ks (k+1)=x:=by
 show ks.getD k []=x
 grind
theorem We(lo:Pl.Key)(hi:Option Pl.Key)(root:Bool)(w:World)(h:fZ w b ps)(hf:∀p∈ps,Pl.la p)(hs:Pl.yA 0 lo hi ps)(hr:root=true\/ps≠ [])(hl:ps.length<=1000):
 bG 282 #[fR b,iR lo hi,.bool root,.int .i64 (n:Nat)] w λe w'=>e= .returned (.bool true)/\Below w.heap.size w w':=by
 obtain⟨A,aB,hb,hc,mM⟩:=h;obtain⟨sl,yZ⟩:=ze (ar lo);obtain⟨sh,CD⟩:=ze (ar (hi.getD []));obtain⟨bn,J9⟩:=ze hi.isNone;have HAS:=(λ(k:Pl.Key) (W:World) (hk:Pl.Hc lo hi k)=>YB lo hi k W hk);unfold iR at HAS|-
 rw[yZ,CD,J9]at HAS|-
 obtain⟨w1,dj,aI⟩:=zF w (.cells #[.string sl,.string sh,.bool bn] 368);have B1:ay w1 w.heap.size 368 [.string sl,.string sh,.bool bn]:=by rw[<-dj];exact ay.new w 368 _
 obtain⟨g1,nY⟩:=ze w.heap.size;rw[nY]at B1;have K0:=nY;obtain⟨m,hm⟩:=ze ps.length;have HSR:=mM.aa aI;have zW:=hb.aa aI hb.lt;obtain⟨c0,_⟩:=bP zW;rw[hm]at c0 hl;have HR:(root=false->0<m):=λe=>by
  rcases hr with hr|hr
  ·rw[hr]at e;cases e
  ·have:=ie.2 hr;omega
 unfold fR;have EN:∀(W:World),(Instr.typeAssert (.iface 343 (.pointer (some ⟨b,0,none⟩))) 263 343 true).run Tryz.prog W= .ok (.tuple #[.pointer (some ⟨b,0,none⟩),.bool true]) W:=λW=>by kernel_rfl
 go_enter Tryz.func282,Tryz.ntmps282;go_wp2_with fail
 go_loopw [9,27] (λl i wr=>∃k:Nat,k<=m/\i= .int .i64 (k:Int)/\l= .string (ar (vO (ps.map (·.key)) k))/\Hid (Below w1.heap.size w1 wr)) (λ_ i _=>m-(intOf i).toNat)
 case atStart=>exact⟨0,aM _,rfl,rfl,ak _ _⟩
 case round=>
  obtain⟨k,hk,rfl,rfl,Gs⟩:=hrel;by_cases hkm:k<m
  ·have q1:(k:Int)<(m:Int):=zo;obtain⟨p,hp⟩:∃p,ps[k]?=some p:=⟨_,aF (by rw[hm];exact hkm)⟩;have Y6:=bO hp;have dm:=jB (f:=gQ) (s:=2) (λ_=>rfl) ps k p hp;have mM:=HSR.aa Gs;obtain⟨b2,off,rfl,g0⟩:=mM.1.dm _ _ (dm 0 zo);have g1':=mM.1.cell _ _ (dm 1 zo);rw[<-ew]at g1';rw[cI]at g0;have Gx:(ps.map (·.key))[k]?=some p.key:=by rw[vj,hp];rfl
   have Yt:vO (ps.map (·.key)) k<p.key:=TG (by rw[List.pairwise_map];exact hs.1) (λx hx=>by
    obtain⟨q,hq,rfl⟩:=iE.1 hx;exact(hf q hq).1.1) Gx
   have l1:=Oj p.key (vO (ps.map (·.key)) k);rw[aQ Yt]at l1;have K1:=λW=>sD p.key W (hf p Y6).1;have K2:=λW=>FW p.val W (hf p Y6).2;have K3:=λW=>HAS p.key W (hs.2 p Y6);have vN:(vO (ps.map (·.key)) (k+1)=p.key):=Ib Gx;obtain⟨ll,X9⟩:=ze (ar (vO (ps.map (·.key)) k));rw[X9]at l1|-
   obtain⟨sk,hsk⟩:=ze (ar p.key);obtain⟨sv,hsv⟩:=ze (ar p.val);rw[hsk]at l1 K1 K3 g0;rw[hsv]at K2 g1';have lt:=bO hp;simp only[Bw]at l1;obtain⟨d0,d1,d2,_,_,_⟩:=iY (B1.aa Gs B1.lt);obtain⟨gp,wb,hgp,p9,dM,BB⟩:=zE wr 399 [.string sk,.string sv];have ja:=Gs.trans (dM.mono Gs.size);obtain⟨e0,e1,_,_⟩:=aO BB;obtain⟨d0,d1,d2,_,_,_⟩:=iY (B1.aa ja B1.lt);go_wp2_with fail;refine(K1 _).mono ?_;rintro e w3 ⟨rfl,rfl⟩;go_wp2_with fail;refine(K2 _).mono ?_;rintro e w3 ⟨rfl,rfl⟩;go_wp2_with fail;refine(K3 _).mono ?_;rintro e w3 ⟨rfl,bg⟩;have aaD:=ja.trans (bg.mono ja.size);obtain⟨e0,e1,_,_⟩:=aO (BB.aa bg BB.lt);go_wp2_with fail;exact⟨⟨k+1,zo,by go_num,by rw[vN,hsk],aaD⟩,by simp[intOf];omega⟩
  ·obtain rfl:k=m:=zo;have WB:=aI.trans (Gs.mono aI.size);obtain⟨c0,_⟩:=bP (zW.aa Gs zW.lt);rw[hm]at c0;cases root with
   |true=>go_wp2_with fail;go_ret;exact⟨rfl,by first|exact WB|(rw[<-K0];exact WB)⟩
   |false=>have q2:=HR rfl;have q3:(0:Int)<(k:Int):=zo;go_wp2_with fail;go_ret;exact⟨by first|rfl|simp[q3],by first|exact WB|(rw[<-K0];exact WB)⟩
theorem SS(ats:List Nat)(lo:Pl.Key)(hi:Option Pl.Key)(root:Bool)(w:World)(h:dZ w b ks rs)(hk:∀k∈ks,Pl.ey k)(hs:ks.Pairwise (·<·))(yl:∀k∈ks,lo<k/\Pl.xK hi k)(h0:ks≠ [])(ha:OC w rs ats)(yT:∀a∈ats,2<=a/\a<n)(hl:ks.length<=1000)(s9:rs.length=ks.length+1):
 bG 282 #[eG b,iR lo hi,.bool root,.int .i64 (n:Nat)] w λe w'=>e= .returned (.bool true)/\Below w.heap.size w w':=by
 obtain⟨A,aB,A',cap',hb,mM,atc⟩:=h.refs;obtain⟨sl,yZ⟩:=ze (ar lo);obtain⟨sh,CD⟩:=ze (ar (hi.getD []));obtain⟨bn,J9⟩:=ze hi.isNone;have HAS:=(λ(k:Pl.Key) (W:World) (hk:Pl.Hc lo hi k)=>YB lo hi k W hk);unfold iR at HAS|-
 rw[yZ,CD,J9]at HAS|-
 obtain⟨w1,dj,aI⟩:=zF w (.cells #[.string sl,.string sh,.bool bn] 368);have B1:ay w1 w.heap.size 368 [.string sl,.string sh,.bool bn]:=by rw[<-dj];exact ay.new w 368 _
 obtain⟨g1,nY⟩:=ze w.heap.size;rw[nY]at B1;have K0:=nY;obtain⟨m,hm⟩:=ze ks.length;have HSR:=mM.aa aI;have aqo:=atc.aa aI;have HF:=hk;have HA:=ha.aa aI;have zW:=hb.aa aI hb.lt;obtain⟨c0,c1,_,_⟩:=aO zW;rw[hm]at c0 hl;rw[s9,hm]at c1;have Dx:(rs.length=m+1):=by rw[s9,hm]
 have q0:0<m:=zA (ie.2 h0);unfold eG;have EN:∀(W:World),(Instr.typeAssert (.iface 377 (.pointer (some ⟨b,0,none⟩))) 263 343 true).run Tryz.prog W= .ok (.tuple #[.pointer none,.bool false]) W:=λW=>by kernel_rfl
 have YY:∀(W:World),(Instr.typeAssert (.iface 377 (.pointer (some ⟨b,0,none⟩))) 263 377 true).run Tryz.prog W= .ok (.tuple #[.pointer (some ⟨b,0,none⟩),.bool true]) W:=λW=>by kernel_rfl
 go_enter Tryz.func282,Tryz.ntmps282;go_wp2_with fail
 go_loopw [9,74] (λl i wr=>∃k:Nat,k<=m/\i= .int .i64 (k:Int)/\l= .string (ar (vO ks k))/\Hid (Below w1.heap.size w1 wr)) (λ_ i _=>m-(intOf i).toNat)
 case atStart=>exact⟨0,aM _,rfl,rfl,ak _ _⟩
 case round=>
  obtain⟨k,hk,rfl,rfl,Gs⟩:=hrel;by_cases hkm:k<m
  ·have q1:(k:Int)<(m:Int):=zo;obtain⟨p,hp⟩:∃p,ks[k]?=some p:=⟨_,aF (by rw[hm];exact hkm)⟩;have Y6:=bO hp;obtain⟨b2,off,rfl,g0⟩:=(HSR.aa Gs).dm _ _ (vJ hp);have Yt:vO ks k<p:=TG hs (λx hx=>(HF x hx).1) hp;have l1:=Oj p (vO ks k);rw[aQ Yt]at l1;have hpi:=yl p Y6;have l2:=Oj p lo;rw[aQ hpi.1,yZ]at l2;have K1:=λW=>sD p W (HF p Y6);have K3:=λW=>HAS p W ⟨Pl.Vj hpi.1,hpi.2⟩;have vN:(vO ks (k+1)=p):=Ib hp;obtain⟨ll,X9⟩:=ze (ar (vO ks k));rw[X9]at l1|-
   obtain⟨sk,hsk⟩:=ze (ar p);rw[hsk]at l1 l2 K1 K3 g0;simp only[Bw]at l1 l2;obtain⟨d0,d1,d2,_,_,_⟩:=iY (B1.aa Gs B1.lt);go_wp2_with fail;refine(K1 _).mono ?_;rintro e w3 ⟨rfl,rfl⟩;go_wp2_with fail;refine(K3 _).mono ?_;rintro e w3 ⟨rfl,bg⟩;have aaD:=Gs.trans (bg.mono Gs.size);go_wp2_with fail;exact⟨⟨k+1,zo,by go_num,by rw[vN,hsk],aaD⟩,by simp[intOf];omega⟩
  ·obtain rfl:k=m:=zo;have WB:=aI.trans (Gs.mono aI.size);obtain⟨c0,c1,_,_⟩:=aO (zW.aa Gs zW.lt);rw[hm]at c0;rw[Dx]at c1;have HA2:=HA.aa Gs;have sZ:=aqo.aa Gs;go_wp2_with fail
   go_loop [105] (λi=>∃j:Nat,j<=k+1/\i= .int .i64 (j:Int)) (λi=>k+1-(intOf i).toNat)
   case atStart=>exact⟨0,aM _,rfl⟩
   case round=>
    obtain⟨j,hj,rfl⟩:=hrel;by_cases hjm:j<k+1
    ·have q1:(j:Int)<(k:Int)+1:=zo;obtain⟨r,hr⟩:∃r,rs[j]?=some r:=⟨_,aF (by rw[Dx];exact hjm)⟩;obtain⟨a,ha⟩:∃a,ats[j]?=some a:=⟨_,aF (zC HA2.1 (id Dx))⟩;obtain⟨b2,off,rfl,g0⟩:=sZ.dm _ _ (iX hr);unfold dJ at g0;obtain⟨pv,HV⟩:=HA2.2 j r a hr ha;obtain⟨e3,_,_,_⟩:=aO HV;have VP:=yT a (bO ha);have q5:¬(a:Int)<2:=zo;have q6:¬(n:Int)<=(a:Int):=zo;have q7:decide ((a:Int)<2)=false:=aH q5;have q8:decide ((n:Int)<=(a:Int))=false:=aH q6;go_wp2_with fail
     go_round
     case rel=>exact⟨j+1,zo,zu⟩
     case measure=>simp[intOf];omega
    ·go_wp2_with fail;go_ret;exact⟨by first|rfl|simp[q0],by first|exact WB|(rw[<-K0];exact WB)⟩
def Nd:Value:= .iface 328 (.agg #[v])
def G4:PanicEntry:={v:=Nd v,recovered:=false}
theorem Em:(Instr.typeAssert (.iface 328 v) 20 328 true).run Tryz.prog w= .ok (.tuple #[v,.bool true]) w:=by simp[Instr.typeAssert,gA Tryz.underlying328,go_sem,Result.andThen]
theorem yP(T:TypeId)(y:Value)(TH:List PanicEntry)(w:World)(hc:w.cell? p=some .nilIface)(hz:w.frozen? p=false):
 CallsD Tryz.prog 214 #[.pointer (some p)] (.panicking (G4 (.iface T y)::TH)) w λe u' w'=>
  e= .returned (.tuple #[])/\u'= .panicking ({v:=Nd (.iface T y),recovered:=true}::TH)/\w'=(w.alloc (.cells #[.iface T y] 328)).setCell p (.iface T y):=by
 have hb:=(ak w.heap.size w).alloc (ai _) (.cells #[.iface T y] 328);have hlt:=dC _ _ hc;have hc':=(hb.cell hlt).trans hc;have hz':=(hb.frozen hlt).trans hz;refine vC Tryz.func214 rfl λc₀ cs hu=>?_;unfold G4 Nd at hu;apply fO;apply il;simp[wpOpsS,go_sem,recoverD,hu,Tryz.ntmps214,Exit.thenS];apply fO;apply il;simp[wpOpsS,go_sem,Exit.thenS];refine oG (t:=true) (by simp[Act.eval,Array.replicate]) ?_;simp only[if_true];apply fO;apply il;simp[wpOpsS,go_sem,Exit.thenS,Em];apply fO;apply fO;apply il;simp[wpOpsS,go_sem,Exit.thenS];refine oG (t:=false) (by simp[Act.eval,Array.replicate]) ?_;simp only[vf,if_false];refine wpS_of_wp (wp_skip ?_);simp only[Exit.thenS];apply il;simp[wpOpsS,go_sem,hc',hz',bodyPostS,results,Tryz.results214];rfl
theorem Iu:
 CallsD Tryz.prog 214 #[.pointer (some p)] .returning w λe u' w'=>e= .returned (.tuple #[])/\u'= .returning/\w'=w:=by
 refine vC Tryz.func214 rfl λc₀ cs hu=>?_;apply fO;apply il;simp[wpOpsS,go_sem,recoverD,hu,Tryz.ntmps214,Exit.thenS];apply fO;apply il;simp[wpOpsS,go_sem,Exit.thenS];refine oG (t:=false) (by simp[Act.eval,Array.replicate]) ?_;simp only[vf,if_false];refine wpS_of_wp (wp_skip ?_);cases c₀;simp_all [bodyPostS,results,Tryz.results214]
theorem NV(Q:Option Value->World->Prop)(hK:∀W,(callFunc K cg).run Tryz.prog W= .ok (.enter K cg) W)
 (h:bG K cg (w.alloc (.cells #[.nilIface] 73)) λe w'=>ay w' w.heap.size 73 [.nilIface]/\((e= .returned (.tuple #[])/\Q none w')\/∃T y,e= .panicked [G4 (.iface T y)]/\Q (some (.iface T y)) w')):
 bG 161 #[.func (.func K) #[] cg] w λe sL=>∃o w',Q o w'/\ag (·=w.heap.size) w' sL/\e= .returned (o.getD .nilIface):=by
 have JJ:=zf Tryz.prog
 go_enter_defers Tryz.func161,Tryz.ntmps161
 go_wp2_with fail;refine h.mono ?_;rintro e w' ⟨hB,⟨rfl,hQ⟩|⟨T,y,rfl,hQ⟩⟩
 ·have hc:=hB.cell 0;have hf:=hB.frozen 0;simp only[au]at hc;go_wp2_with fail;refine qM (f:=214) (args:= #[.pointer (some ⟨w.heap.size,0,none⟩)]) zu (by simp[go_sem]) ?_;refine(Iu ⟨w.heap.size,0,none⟩ _).mono ?_;rintro e u' sL ⟨rfl,rfl,rfl⟩;have lC:=(hB.bw 0 .nilIface).cell 0;simp only[jC,au]at lC;simp[Leaves,settle,results,Tryz.results161,go_sem];rw[lC];exact⟨_,rfl,none,w',hQ,(ag.refl (·=w.heap.size) w').setCell (p:=⟨w.heap.size,0,none⟩) (.inl rfl) _,rfl⟩
 ·have hc:=hB.cell 0;have hf:=hB.frozen 0;simp only[au]at hc;go_wp2_with fail;refine qM (f:=214) (args:= #[.pointer (some ⟨w.heap.size,0,none⟩)]) zu (by simp[go_sem]) ?_;refine(yP ⟨w.heap.size,0,none⟩ T y [] _ hc hf).mono ?_;rintro e u' sL ⟨rfl,rfl,rfl⟩;have lC:=((hB.alloc (.cells #[.iface T y] 328)).bw 0 (.iface T y)).cell 0;simp only[jC,au]at lC;simp[Leaves,settle,results,Tryz.results161,go_sem];rw[lC];exact⟨_,rfl,some (.iface T y),w',hQ,((ag.refl (·=w.heap.size) w').alloc _).setCell (p:=⟨w.heap.size,0,none⟩) (.inl rfl) _,rfl⟩
def gU:Ending:= .panicked [G4 (Di k)]
def rY(ok:Bool)(k:Nat)(e:Ending):Prop:=(ok=true/\e= .returned (.tuple #[]))\/(ok=false/\e=gU k)
theorem rY.rM:rY true k (.returned (.tuple #[])):= .inl ⟨rfl,rfl⟩
theorem rY.no:rY false k (gU k):= .inr ⟨rfl,rfl⟩
def Xt(e:Ending):Prop:=(k=0/\e= .returned (.tuple #[]))\/(1<=k/\k<=100/\e=gU k)
theorem ER(Q:Nat->World->Prop)(hK:∀W,(callFunc K cg).run Tryz.prog W= .ok (.enter K cg) W)
 (h:bG K cg (w.alloc (.cells #[.nilIface] 73)) λe w'=>ay w' w.heap.size 73 [.nilIface]/\∃k,Xt k e/\Q k w'):
 bG 161 #[.func (.func K) #[] cg] w λe sL=>∃k w',k<=100/\Q k w'/\ag (·=w.heap.size) w' sL/\e= .returned (oT k):=by
 refine(NV K cg w (λo w'=>∃k,k<=100/\o.getD .nilIface=oT k/\Q k w') hK ?_).mono ?_
 ·refine h.mono ?_;rintro e w' ⟨hb,k,hk,hq⟩;refine⟨hb,?_⟩;rcases hk with⟨rfl,rfl⟩|⟨h1,h2,rfl⟩
  ·exact .inl ⟨rfl,0,zo,rfl,hq⟩
  ·exact .inr ⟨_,_,rfl,k,h2,by show Di k=oT k;unfold oT;grind,hq⟩
 grind
theorem oy:bG 163 #[Di k] w λe w'=>e=gU k/\w=w':=by unfold Di;go_enter Tryz.func163,Tryz.ntmps163;go_wp2_with fail;exact⟨rfl,rfl,rfl⟩
structure Tm where
 g:Nat
 first:Nat
 n:Nat
 root:Nat
 saved:Option Nat
 seq:Nat
 ej:Nat
 bad:Bool
def amV:Option Nat->Value
 |none=> .pointer none
 |some r=>dJ r
def GK(m:Tm):List Value:=[.pointer (some ⟨m.g,0,none⟩),.int .i64 (m.first:Nat),.int .i64 (m.n:Nat),dJ m.root,amV m.saved,.int .u64 (m.seq:Nat),.int .i64 (m.ej:Nat),.bool m.bad]
abbrev ny(gT:Nat)(m:Tm):Prop:=ay w gT 242 (GK m)
theorem VD{w:World}{a0 a1 a2 a3 a4 a5 a6 a7:Value}(h:ay w g t [a0,a1,a2,a3,a4,a5,a6,a7]):
 w.cell? ⟨g,0,none⟩=some a0/\w.cell? ⟨g,1,none⟩=some a1/\w.cell? ⟨g,2,none⟩=some a2/\w.cell? ⟨g,3,none⟩=some a3/\w.cell? ⟨g,4,none⟩=some a4/\w.cell? ⟨g,5,none⟩=some a5/\w.cell? ⟨g,6,none⟩=some a6/\w.cell? ⟨g,7,none⟩=some a7/\(∀i,w.frozen? ⟨g,i,none⟩=false):=
 ⟨h.cell 0,h.cell 1,h.cell 2,h.cell 3,h.cell 4,h.cell 5,h.cell 6,h.cell 7,λi=>h.frozen i⟩
theorem iu.pw{w w':World}{v:Value}{d:Pl.Dk}{rd:Int}(h:aJ w g v d rd)(fu:Zn g)(ho:ag (·=g) w w'):iu w w':=by obtain⟨wr,sy,hb⟩:=h.aC;obtain⟨A,aB,rfl,_⟩:=bJ h.own;refine⟨⟨_,ho,λk hk=>⟨108,zu,hk▸hb.dV⟩⟩,λr a x hr=>⟨x,ho.aC hr (λe=>?_),.inl rfl⟩,λp s hs hc=>ho.cell hc (hb.plain (by simp[oC]) hc hs),ho.mono zS⟩;subst e;exact absurd (hr.RI hb) zj
def amf(m:Tm)(vD:Value)(d:Pl.Dk)(rd:Int)(i:Nat)(w:World)(e:Ending)(w':World):Prop:=
 ((d.aW=0/\e=gU 3)\/(d.aW≠0/\e= .returned (.tuple #[.string (ar ((d.look (m.first+i)).getD [])),.bool (d.look (m.first+i)).isSome])))/\(∃cO,aJ w' m.g vD d cO/\Rds rd cO)/\ag (·=m.g) w w'
theorem Q1(m:Tm)(rest:List Value)(vD:Value)(d:Pl.Dk)(rd:Int)(i:Nat)(w:World)(hT:ay w gT 242 (.pointer (some ⟨m.g,0,none⟩):: .int .i64 (m.first:Nat)::rest))(h:aJ w m.g vD d rd)(hi:m.first+i<d.aV.length):
 bG 164 #[.pointer (some ⟨gT,0,none⟩),.int .i64 (i:Nat)] w (amf m vD d rd i w):=by
 obtain⟨wr,sy,pO⟩:=h.aC;have hne:gT≠m.g:=hT.ne pO zj;have yd:=h.pU;obtain⟨g,first,n,root,saved,seq,ej,bad⟩:=m;dsimp only at h hi hne hT;have c0:w.cell? ⟨gT,0,none⟩=some (.pointer (some ⟨g,0,none⟩)):=hT.cell 0;have c1:w.cell? ⟨gT,1,none⟩=some (.int .i64 (first:Nat)):=hT.cell 1;have H:=λW hW=>Qp g vD d rd (first+i) W hW hi;obtain⟨x,hx⟩:=ze (first+i);have hxi:(first:Int)+(i:Int)=(x:Int):=zo;have Vq:IntKind.i64.wrap (x:Int)=x:=aY _ zo;rw[hx]at hi H;have TT:=hne;have qG:(x:Int)<=4096:=zo;have S0:=And.intro c0 c1;go_enter Tryz.func164,Tryz.ntmps164;go_wp2_with fail
 go_region_held3 (λW:World=>W.cell? ⟨gT,0,none⟩=some (.pointer (some ⟨g,0,none⟩))/\W.cell? ⟨gT,1,none⟩=some (.int .i64 (first:Nat))) (first|exact S0|exact S1) (first
  |(go_at_call 211
    refine(H _ (h.only ((ag.refl (λ_=>False) w).drew) (λ_ _=>id))).mono ?_;rintro e w1 ⟨rfl,⟨cO,h1,h2⟩,SA⟩;have h3:ag (·=g) w w1:=SA.im;have H1:=h1;have H2:=h2;have H3:=h3;have BT:=h3.aC hT TT;have S1:=And.intro (BT.cell 0) (BT.cell 1);clear h1 h2 h3)
  |fail)
 by_cases h0:d.aW=0
 ·have hr:oL d x=none:=by unfold oL;rw[ah h0]
  rw[hr];have xz:=tH g vD d cO w1 H1;have hq:(d.aW==0)=true:=by rw[h0];rfl
  rw[hq]at xz;simp only[mE,oB];go_wp2_with fail;refine xz.mono ?_;rintro e w' ⟨rfl,rfl⟩;go_wp2_with fail;refine(oy 3 _).mono ?_;rintro e w' ⟨rfl,rfl⟩;unfold gU;go_wp2_with fail;exact⟨rfl,.inl ⟨h0,rfl⟩,⟨cO,H1,H2⟩,H3⟩
 ·have hr:oL d x=d.look x:=by unfold oL;rw[aj h0]
  rw[hr];have xz:=tH g vD d cO w1 H1;have hq:(d.aW==0)=false:=by simp[h0]
  rw[hq]at xz;cases mW:d.look x with
  |none=>simp only[mE,oB];go_wp2_with fail;refine xz.mono ?_;rintro e w' ⟨rfl,rfl⟩;go_wp2_with fail;go_ret2;exact⟨.inr ⟨h0,by dsimp only;rw[hx,mW];rfl⟩,⟨cO,H1,H2⟩,H3⟩
  |some t=>simp only[lU,oQ];go_wp2_with fail;go_ret2;exact⟨.inr ⟨h0,by dsimp only;rw[hx,mW];rfl⟩,⟨cO,H1,H2⟩,H3⟩
theorem Sh(m:Tm)(vD:Value)(d:Pl.Dk)(rd:Int)(i:Nat)(w:World)(hT:ny w gT m)(h:aJ w m.g vD d rd)(hi:m.first+i<d.aV.length):
 bG 164 #[.pointer (some ⟨gT,0,none⟩),.int .i64 (i:Nat)] w (amf m vD d rd i w):=Q1 gT m _ vD d rd i w hT h hi
namespace Pl
def Pj:(h:Nat)->Tr h->ST h->List UInt8
 |0,(ps:List Pr),_=>eV ps
 |h+1,t,s=>nj t.1 (s.2.map (top h))
theorem yJ.text{D:Nat->Option (List UInt8)}{n:Nat}:(h:Nat)->(s:ST h)->(t:Tr h)->yJ D n h s t->D (top h s)=some (l5 (Pj h t s))
 |0,_,_,h=>h.2.2
 |_+1,_,_,h=>h.2.2.1
def yK(root:Bool)(h:Nat)(t:Tr h):Prop:=if root then sW h t else Fit h t
theorem yK.root{root:Bool}{h:Nat}{t:Tr h}(hf:yK root h t):sW h t:=by
 cases root
 ·exact Fit.root h t hf
 ·exact hf
theorem Kh{ks:List Key}{ats:List Nat}(hl:ats.length=ks.length+1):(nj ks ats).length=lD ks:=by have h1:=QF (ks.zip (ats.drop 1));rw[List.map_fst_zip zw]at h1;unfold nj;rw[bE,bE,ax,aG];omega
theorem ND(ps:List Pr):(eV ps).length=j5 ps:=by have:=vi ps;unfold eV;rw[bE,ax,aG];omega
theorem IX{t:List UInt8}(h:t.length<=256):(l5 t).length=256:=by
 unfold l5 gO
 grind
end Pl
theorem iq.form{w:World}{v:Value}:{pg:Pg}->iq w v pg->∃T b,v= .iface T (.pointer (some ⟨b,0,none⟩))
 | .leaf _,⟨b,h,_⟩=>⟨_,b,h⟩
 | .inner _ _,⟨b,h,_⟩=>⟨_,b,h⟩
theorem fN.form{w:World}{G:Gh}{v:Value}:(h:Nat)->(t:Pl.Tr h)->(so:Option (Pl.ST h))->fN w G v h t so->∃T b,v= .iface T (.pointer (some ⟨b,0,none⟩))
 |0,t,_,h=>iq.form (pg:= .leaf t) h
 |_+1,_,_,⟨_,h,_⟩=>h.form
def uJ(lo:Nat)(v:Value)(w:World):(h:Nat)->Pl.Tr h->Pl.ST h->Prop
 |0,(ps:List Pl.Pr),_=>iq w v (.leaf ps)
 |h+1,t,s=>∃rs,iq w v (.inner t.1 rs)/\rs.length=s.2.length/\pY w lo rs (s.2.map (Pl.top h))
theorem uJ.form{lo:Nat}{w:World}{v:Value}:(h:Nat)->(t:Pl.Tr h)->(s:Pl.ST h)->uJ lo v w h t s->∃T b,v= .iface T (.pointer (some ⟨b,0,none⟩))
 |0,t,_,h=>iq.form (pg:= .leaf t) h
 |_+1,_,_,⟨_,h,_⟩=>h.form
theorem uJ.aa{lo:Nat}{w w':World}{v:Value}(hb:dP w w'):(h:Nat)->(t:Pl.Tr h)->(s:Pl.ST h)->uJ lo v w h t s->uJ lo v w' h t s
 |0,t,_,h=>iq.aa (pg:= .leaf t) h hb
 |_+1,_,_,⟨rs,h1,h2,h3⟩=>⟨rs,h1.aa hb,h2,h3.aa hb⟩
theorem ZB(D:Nat->Option (List UInt8))(n h:Nat)(t:Pl.Tr h)(s:Pl.ST h)(w:World)(hD:Pl.yJ D n h s t)(hf:Pl.sW h t)(hn:n<=4096):
 bG 281 #[.string (ar (Pl.l5 (Pl.Pj h t s)))] w λe w'=>∃v,e= .returned v/\uJ w.heap.size v w' h t s/\dP w w':=by
 cases h with
 |zero=>
  have f1:=hf.1;have f2:=hf.2;have bU:=Pl.ND t;refine(Ve t (Pl.gO (256-(Pl.eV t).length)) _ w rfl ?_ (λp hp=>?_)).mono ?_
  ·have:=Pl.IX (t:=Pl.eV t) zo;exact ao (gF this) zo
  ·have:=f2 p hp;exact⟨by have:=this.1.2;omega,by have:=this.2;omega⟩
  ·rintro e w' ⟨b,rfl,h1,_,h3⟩;exact⟨_,rfl,⟨b,rfl,h1⟩,h3⟩
 |succ h=>
  obtain⟨f1,f2,f3,f4,f5⟩:=hf;obtain⟨d1,d2,d3,d4,d5⟩:=hD;have fK:(s.2.map (Pl.top h)).length=t.1.length+1:=zw;have bU:=Pl.Kh (ks:=t.1) fK;have TR:=jr t.1;refine(SR t.1 (s.2.map (Pl.top h)) (Pl.gO (256-(Pl.nj t.1 (s.2.map (Pl.top h))).length)) _ w rfl ?_ (λk hk=>by have:=(f4 k hk).2;omega) zo fK (λa ha=>?_)).mono ?_
  ·have:=Pl.IX (t:=Pl.nj t.1 (s.2.map (Pl.top h))) zo;exact ao (gF this) zo
  ·obtain⟨y,hy,rfl⟩:=iE.1 ha;obtain⟨i,hi⟩:=lG.1 hy;obtain⟨hlt,_⟩:=cR.1 hi;have:=(Pl.yJ.bounds h y _ (d5 i y _ hi (aF (d4▸hlt)))).2;omega
  ·rintro e w' ⟨b,rs,rfl,h1,h2,h3,_,h5⟩;exact⟨_,rfl,⟨rs,⟨b,rfl,h1⟩,zo,h3⟩,h5⟩
theorem ZF(D:Nat->Option (List UInt8))(n h lo0:Nat)(t:Pl.Tr h)(s:Pl.ST h)(v:Value)(lo:Pl.Key)(hi:Option Pl.Key)(root:Bool)(w:World)(hp:uJ lo0 v w h t s)(hD:Pl.yJ D n h s t)(hf:Pl.yK root h t)(hs:Pl.yA h lo hi t):
 bG 282 #[v,iR lo hi,.bool root,.int .i64 (n:Nat)] w λe w'=>e= .returned (.bool true)/\dP w w':=by
 cases h with
 |zero=>
  obtain⟨b,rfl,h1⟩:=hp;have f1:=hf.root.1;have f2:=hf.root.2;have:=iP t;refine We b n t lo hi root w h1 f2 hs ?_ zo;cases root with
  |true=>simp
  |false=>exact .inr hf.2.1
 |succ h=>obtain⟨rs,⟨b,rfl,h1⟩,h2,h3⟩:=hp;obtain⟨f1,f2,f3,f4,f5⟩:=hf.root;obtain⟨d1,d2,d3,d4,d5⟩:=hD;have TR:=jr t.1;obtain⟨k1,k2⟩:=Pl.ff.keys hs;refine SS b n t.1 rs (s.2.map (Pl.top h)) lo hi root w h1 f4 k1 k2 f2 ⟨zw,λi r a hr ha=>⟨_,h3.dm i r a hr ha⟩⟩ (λa ha=>?_) zo zo;obtain⟨y,hy,rfl⟩:=iE.1 ha;obtain⟨i,hi⟩:=lG.1 hy;obtain⟨hlt,_⟩:=cR.1 hi;exact Pl.yJ.bounds h y _ (d5 i y _ hi (aF (d4▸hlt)))
structure fe where
 gT:Nat
 m:Tm
 vD:Value
 d:Pl.Dk
 S:List Nat
def fe.D(E:fe):Nat->Option (List UInt8):=λj=>E.d.look (E.m.first+j)
structure anT(E:fe)(G:Gh):Prop where
 g:∀r x,G r=some x->Zn r
 d:∀k,dF E.m.g E.vD k->Zn k
 t:Zn E.gT
structure TW(E:fe)(w:World)(rd:Int)(G:Gh):Prop where
 tree:ny w E.gT E.m
 gq:aJ w E.m.g E.vD E.d rd
 inv:Inv w G E.D E.m.n E.S
 aA:E.m.first+E.m.n<=E.d.aV.length
 low:anT E G
 aq:LO<=w.heap.size
theorem TW.aa{E:fe}{w w':World}{rd:Int}{G:Gh}(h:TW E w rd G)(hb:dP w w'):TW E w' rd G:=⟨h.tree.aa hb h.tree.lt,h.gq.aa hb,h.inv.aa hb,h.aA,h.low,ao h.aq hb.size⟩
def tF(k:Nat)(rd cO:Int):Prop:=0<=rd->rd+(k:Int)<4611686018427387904->0<=cO/\cO<=rd+(k:Int)
theorem tF.refl(k:Nat)(rd:Int):tF k rd rd:=λh1 h2=>⟨h1,zo⟩
theorem tF.trans{j k n:Nat}{a b c:Int}(h:tF j a b)(h':tF k b c)(hn:j+k<=n):tF n a c:=λh1 h2=>by have h3:=h h1 zo;have h4:=h' h3.1 zo;omega
theorem tF.mono{j k:Nat}{a b:Int}(h:tF j a b)(hn:j<=k):tF k a b:=λh1 h2=>by have h3:=h h1 zo;omega
def Yh(E:fe)(k:Nat)(rd:Int)(G:Gh)(Q:World->Gh->Value->Prop)(w:World)(e:Ending)(w':World):Prop:=
 (∃v G' cO,e= .returned v/\TW E w' cO G'/\Ext G G'/\iu w w'/\tF k rd cO/\Q w' G' v)\/(E.d.aW=0/\e=gU 3/\(∃cO,aJ w' E.m.g E.vD E.d cO)/\iu w w')
theorem TW.read{E:fe}{w w1:World}{rd:Int}{G:Gh}(hw:TW E w rd G)(hb:dP w w1){r h:Nat}{t:Pl.Tr h}{s:Pl.ST h}{v:Value}(hr:cX w r (Pl.top h s) .nilIface)(hG:G r=some ⟨h,t⟩)(hD:Pl.yJ E.D E.m.n h s t)(hS:∀j∈Pl.fg h s,j∈E.S)
 {lo:Nat} (fu:lo=w.heap.size) (hp:uJ lo v w1 h t s):∃G',TW E (w1.setCell ⟨r,1,none⟩ v) rd G'/\Ext G G'/\iu w (w1.setCell ⟨r,1,none⟩ v)/\fN (w1.setCell ⟨r,1,none⟩ v) G' v h t none/\cX (w1.setCell ⟨r,1,none⟩ v) r (Pl.top h s) v:=by
 subst fu;have key:∃G',Inv w1 G' E.D E.m.n E.S/\Ext G G'/\fN w1 G' v h t (some s)/\anT E G':=by
  cases h with
  |zero=>exact⟨G,hw.inv.aa hb,Ext.refl G,hp,hw.low⟩
  |succ h=>obtain⟨rs,h1,h2,h3⟩:=hp;obtain⟨d1,d2,d3,d4,d5⟩:=hD;obtain⟨g1,g2,g3⟩:=hw.inv.kids hb (cs:=t.2) (ss:=s.2) h3 zo d4 rfl d5 (λa ha j hj=>hS j (kd _ (lQ.2 ⟨a,ha,hj⟩)));refine⟨_,g1,g2,⟨rs,h1,zo,g3,λs' TU i r a hr ha=>?_⟩,⟨λk x hk=>(Gh.JN hk).elim (hw.low.g k x) (λhl=> .inl (ao hw.aq hl)),hw.low.d,hw.low.t⟩⟩;injection TU with TU;subst TU;exact⟨_,h3.dm i r _ hr zw⟩
 obtain⟨G',k1,k2,k3,k4⟩:=key;have LR:cX w1 r (Pl.top h s) .nilIface:=hr.aa hb hr.lt;obtain⟨s1,s2⟩:=setRef LR v (hw.low.g _ _ hG);refine⟨G',⟨s2.aC (hw.tree.aa hb hw.tree.lt) zj zj,(hw.gq.aa hb).only ((ag.refl (·=r) w1).setCell (p:=⟨r,1,none⟩) zu v) (λk hk e=>?_),k1.alf LR (k2 _ _ hG) hD hS k3 (hw.low.g _ _ hG),hw.aA,k4,ao hw.aq (ao hb.size s2.size)⟩,k2,(iu.ae hb).trans s2,(k3.bare h t _).Ir s2 (Ext.refl G'),s1⟩;subst e;obtain⟨t',h1,h2⟩:=(hw.gq.aa hb).kinds k hk;have:=h2.dv LR.dV
 grind
theorem xU(E:fe)(r h jt:Nat)(t:Pl.Tr h)(lo:Pl.Key)(hi:Option Pl.Key)(w:World)(rd:Int)(G:Gh)(hw:TW E w rd G)(hG:G r=some ⟨h,t⟩)(hf:Pl.yK (decide (jt=0)) h t)(hs:Pl.yA h lo hi t)(hd:jt<=64)(hn:E.m.n<=4096):
 bG 274 #[.pointer (some ⟨E.gT,0,none⟩),dJ r,iR lo hi,.int .i64 (jt:Nat)] w (Yh E 1 rd G (λw' G' v=>fN w' G' v h t none/\∃a,cX w' r a v) w):=by
 have XF:=(λ(s:Pl.ST h) (v:Value) (lo0:Nat) (W:World) (hp:uJ lo0 v W h t s) (hD:Pl.yJ E.D E.m.n h s t)=>ZF E.D E.m.n h lo0 t s v lo hi (decide (jt=0)) W hp hD hf hs);obtain⟨sl,yZ⟩:=ze (ar lo);obtain⟨sh,CD⟩:=ze (ar (hi.getD []));obtain⟨bn,J9⟩:=ze hi.isNone;unfold iR at XF|-
 rw[yZ,CD,J9]at XF|-
 obtain⟨w0,Lt,pL⟩:=zF w (.cells #[.string sl,.string sh,.bool bn] 368);have B0:ay w0 w.heap.size 368 [.string sl,.string sh,.bool bn]:=by rw[<-Lt];exact ay.new w 368 _
 have hW0:=hw.aa pL;obtain⟨g6,Ai⟩:=ze w.heap.size;rw[Ai]at B0;have HW:=hW0;have HGG:=hG;have HS0:=B0;rcases hW0.inv r h t hG with hr|hr
 ·obtain⟨v,h1,h2⟩:=hr;obtain⟨T,b,rfl⟩:=h2.form h t none;obtain⟨c0,c1,_,_⟩:=aO h1;unfold dJ;go_enter Tryz.func274,Tryz.ntmps274;go_wp2_with fail;go_ret;have dM:Below w.heap.size w w0:=pL
  first
   |exact .inl ⟨_,G,rd,rfl,HW,Ext.refl G,iu.ae dM,tF.refl 1 rd,h2,_,h1⟩
   |(rw[Lt];exact .inl ⟨_,G,rd,rfl,HW,Ext.refl G,iu.ae dM,tF.refl 1 rd,h2,_,h1⟩)
 ·obtain⟨s,v,h1,hD,hS,h2⟩:=hr;rcases h2 with rfl|h2
  ·obtain⟨c0,c1,f0,f1⟩:=aO h1;have J6:=hD.bounds;have VL:=Sh E.gT E.m E.vD E.d rd (Pl.top h s) w0 hW0.tree hW0.gq (zA hW0.aA);have St:(E.d.look (E.m.first+Pl.top h s)=some (Pl.l5 (Pl.Pj h t s))):=hD.text;have HPA:=λW=>ZB E.D E.m.n h t s W hD hf.root hn;obtain⟨a,ha⟩:=ze (Pl.top h s);rw[ha]at VL St c0;have HR:=h1;obtain⟨tx,htx⟩:=ze (Pl.l5 (Pl.Pj h t s));rw[htx]at St HPA;have q0:¬(64:Int)<(jt:Int):=zo;have q1:decide ((64:Int)<(jt:Int))=false:=aH q0;have q2:((jt:Int)==0)=decide (jt=0):=by
    by_cases h0:jt=0
    ·subst h0;rfl
    ·rw[aH h0,b9];omega
   unfold dJ;go_enter Tryz.func274,Tryz.ntmps274;go_wp2_with fail;refine VL.mono ?_;rintro e w1 ⟨⟨fK,rfl⟩|⟨fK,rfl⟩,⟨cO,vT,Dt⟩,ho⟩
   ·clear Dt;unfold gU;go_wp2_with fail;refine⟨rfl,.inr ⟨fK,rfl,⟨cO,vT⟩,?_⟩⟩;exact(iu.ae pL).trans (iu.pw HW.gq (HW.low.d _ (.inl rfl)) ho)
   ·rw[St];simp only[lU,oQ];have htf:=iu.pw HW.gq (HW.low.d _ (.inl rfl)) ho;have hne:r≠E.m.g:=by obtain⟨wr,sy,pO⟩:=HW.gq.aC;exact HR.ne pO zj
    have HW1:(TW E w1 cO G):=⟨htf.aC HW.tree zj zj,vT,HW.inv.only ho (λk hk=>by
     obtain⟨wr,sy,pO⟩:=HW.gq.aC;exact⟨108,dU.2 rfl,hk▸pO.dV⟩) zj zj,HW.aA,HW.low,ao HW.aq ho.size⟩
    have HR1:=ho.aC HR hne;have Sp:=htf.aC HS0 zj zj;go_wp2_with fail;refine(HPA _).mono ?_;rintro e w2 ⟨v,rfl,hpv,bz⟩;obtain⟨T,b,rfl⟩:=hpv.form h t s;have CQ:=HR1.aa bz HR1.lt;have tl:=HW1.tree.aa bz HW1.tree.lt;have sZ:=Sp.aa bz Sp.lt;obtain⟨e0,e1,e2,_,_,_⟩:=iY sZ;obtain⟨t0,t1,t2,t3,t4,t5,t6,t7,tf⟩:=VD tl;have S0:=sS e0 e1 e2 t2;go_wp2_with fail
    go_region_held3 (λW:World=>W.cell? ⟨g6,0,none⟩=some (.string sl)/\W.cell? ⟨g6,1,none⟩=some (.string sh)/\W.cell? ⟨g6,2,none⟩=some (.bool bn)/\W.cell? ⟨E.gT,2,none⟩=some (.int .i64 (E.m.n:Nat))) (first|exact S0|exact S1) (first
     |(go_at_call 282
       (try rw[q2]);refine(XF s _ _ _ (hpv.aa ((ak _ _).drew) h t s) hD).mono ?_;rintro e w3 ⟨rfl,AO⟩;have bg:Below w2.heap.size w2 w3:=im AO;have eI:=bg;have b1:=sZ.aa bg sZ.lt;have b2:=tl.aa bg tl.lt;have S1:=sS (b1.cell 0) (b1.cell 1) (b1.cell 2) (b2.cell 2);clear bg AO b1 b2)
     |fail)
    have Wu:=CQ.aa eI CQ.lt;obtain⟨c0,c1,f0,f1⟩:=aO Wu;obtain⟨k0,k1⟩:=aO (setRef Wu (Value.iface T (.pointer (some ⟨b,0,none⟩))) (HW.low.g _ _ HGG)).1;go_wp2_with fail;go_ret;obtain⟨G',r1,r2,r3,r4,r5⟩:=HW1.read (bz.trans (eI.mono bz.size)) (by exact HR1) HGG hD hS rfl (hpv.aa eI h t s);exact .inl ⟨_,G',cO,rfl,r1,r2,((iu.ae pL).trans htf).trans r3,λh1 h2=>Dt h1 zo,r4,_,r5⟩
  ·clear XF HS0 B0;obtain⟨T,b,rfl⟩:=h2.form h t _;obtain⟨c0,c1,_,_⟩:=aO h1;unfold dJ;go_enter Tryz.func274,Tryz.ntmps274;go_wp2_with fail;go_ret;have dM:Below w.heap.size w w0:=pL
   first
    |exact .inl ⟨_,G,rd,rfl,HW,Ext.refl G,iu.ae dM,tF.refl 1 rd,h2.bare h t _,_,h1⟩
    |(rw[Lt];exact .inl ⟨_,G,rd,rfl,HW,Ext.refl G,iu.ae dM,tF.refl 1 rd,h2.bare h t _,_,h1⟩)
end Go.Proofs.YtbhpofdafhahgaaGreatDoor
