/- Part 15: PgW PgY ShellD PlainDbA PlainRows CodecP ClashA RwA. -/
import Derived.Deep.Strs
import Derived.Laws.Bits64
import Derived.Test.YtbhpofdafhahgaaGreatDoorMq14
set_option linter.all false
set_option maxHeartbeats 8000000
set_option maxRecDepth 100000
namespace Go.Proofs.YtbhpofdafhahgaaGreatDoor
open Go.RowKit
variable [Inhabited eH]
variable {k h gT:Nat} {w w':World} {G:Gh} {t:Pl.Tr h} {n:List Pl.Key×List (Pl.Tr h)} {r:Pl.Row h}
variable (E:fe) (F:Nat->Nat)
def Sm(k:Nat):Nat:=((List.range k).map F).sum
theorem GL(k:Nat):Sm F (k+1)=Sm F k+F k:=by simp[Sm,jK]
theorem alv{F H:Nat->Nat}(h:∀j,j<k->F j<=H j):Sm F k<=Sm H k:=by
 induction k with
 |zero=>exact ai _
 |succ k ih=>rw[GL,GL];grind
theorem YO{α:Type}(f:α->Nat):∀(l:List α),Sm (λj=>(l[j]?.map f).getD 0) l.length=(l.map f).sum
 | []=>rfl
 |a::l=>by
  have ih:=YO f l;unfold Sm at ih|-
  rw[bE,List.range_succ_eq_map,jf,oU,List.map_map,jf,oU,<-ih];rfl
def yo(w:World):(h:Nat)->Pl.Tr h->Nat->Nat->Prop
 |0,_,r,f=>∃a v,cX w r a v/\((a≠0/\f=0)\/(a=0/\f=1))
 |h+1,t,r,f=>∃a v,cX w r a v/\((a≠0/\f=0)\/(a=0/\∃rs F,iq w v (.inner t.1 rs)/\rs.length=t.2.length/\f=1+Sm F rs.length/\∀(j r:Nat) (c:Pl.Tr h),rs[j]?=some r->t.2[j]?=some c->yo w h c r (F j)))
theorem Inv.at0{D:Nat->Option (List UInt8)}{n:Nat}{S:List Nat}(hi:Inv w G D n S){r:Nat}(hG:G r=some ⟨h,t⟩):(∃v,cX w r 0 v/\fN w G v h t none)\/∃a v,a≠0/\a<=4294967296+n/\cX w r a v:=by
 rcases hi r h t hG with h1|⟨s,v,h1,h2,_⟩
 ·grind
 ·exact .inr ⟨_,v,by have:=h2.bounds;omega,by have:=h2.bounds;omega,h1⟩
theorem U0(r:Nat)(v:Value)(t:List Pl.Pr)(w:World)(G:Gh)(hr:cX w r 0 v)(hp:fN w G v 0 t none):bG 284 #[dJ r] w λe w'=>e= .returned (.int .i64 (1:Nat))/\w=w':=by
 obtain⟨b,rfl,_⟩:=hp;obtain⟨c0,c1,_,_⟩:=aO hr;have EN:∀(W:World),(Instr.typeAssert (.iface 343 (.pointer (some ⟨b,0,none⟩))) 263 377 true).run Tryz.prog W= .ok (.tuple #[.pointer none,.bool false]) W:=λW=>by kernel_rfl
 unfold fR at c1;unfold dJ;go_enter Tryz.func284,Tryz.ntmps284;go_wp2_with fail;go_ret;exact⟨rfl,rfl⟩
theorem MH(r a:Nat)(v:Value)(w:World)(hr:cX w r a v)(ha:a≠0):bG 284 #[dJ r] w λe w'=>e= .returned (.int .i64 (0:Nat))/\w=w':=by
 obtain⟨c0,c1,_,_⟩:=aO hr;have q1:((a:Int) !=0)=true:=by simp[ha]
 have q2:¬(a:Int)=0:=zo;unfold dJ;go_enter Tryz.func284,Tryz.ntmps284;go_wp2_with fail;go_ret;exact⟨rfl,rfl⟩
theorem Si(r b n h:Nat)(ks:List Pl.Key)(rs:List Nat)(w:World)(F:Nat->Nat)(hr:cX w r 0 (eG b))(yl:dZ w b ks rs)(hl:rs.length=n)(hn:n<=100000)(hs:Sm F n<=100000)
 (hk:∀(j x:Nat),rs[j]?=some x->bG 284 #[dJ x] w λe w'=>e= .returned (.int .i64 (F j:Nat))/\w=w'):
 bG 284 #[dJ r] w λe w'=>e= .returned (.int .i64 (1+Sm F n:Nat))/\w=w':=by
 obtain⟨c0,c1,_,_⟩:=aO hr;obtain⟨A,ca,A',vR,dM,_,_,_,PG⟩:=yl;obtain⟨d0,d1,_,_⟩:=aO dM;rw[hl]at d1;have EN:∀(W:World),(Instr.typeAssert (.iface 377 (.pointer (some ⟨b,0,none⟩))) 263 377 true).run Tryz.prog W= .ok (.tuple #[.pointer (some ⟨b,0,none⟩),.bool true]) W:=λW=>by kernel_rfl
 unfold eG at c1;unfold dJ at hk|-
 go_enter Tryz.func284,Tryz.ntmps284;go_wp2_with fail
 go_loop [3,27] (λs i=>∃k:Nat,k<=n/\i= .int .i64 (k:Int)/\s= .int .i64 (1+Sm F k:Nat)) (λ_ i=>n-(intOf i).toNat)
 case atStart=>exact⟨0,aM _,rfl,rfl⟩
 case round=>
  obtain⟨k,pX,rfl,rfl⟩:=hrel;by_cases hlt:k<n
  ·have q1:(k:Int)<(n:Int):=zo;obtain⟨x,hx⟩:∃x,rs[k]?=some x:=⟨_,aF (by rw[hl];exact hlt)⟩;obtain⟨bk,ok,rfl,g0⟩:=PG.1.dm _ _ (iX hx);unfold dJ at g0;have HC:=hk k x hx;have h1:=GL F k;have h2:Sm F (k+1)<=Sm F n:=by
    have key:∀d,Sm F (k+1)<=Sm F (k+1+d):=by
     intro d
     induction d with
     |zero=>exact ai _
     |succ d ih=>have h9:=GL F (k+1+d);rw[show k+1+(d+1)=k+1+d+1 from rfl,h9];omega
    have:=key (n-(k+1));rw[show k+1+(n-(k+1))=n by omega]at this;exact this
   obtain⟨s,hsm⟩:=ze (Sm F k);obtain⟨f,hfk⟩:=ze (F k);have J6:s+f<=100000:=zA hs;rw[hsm];rw[hfk]at HC;have H1:(Sm F (k+1)=s+f):=by rw[h1,hsm,hfk]
   go_wp2_with fail;refine HC.mono ?_;rintro e w' ⟨rfl,rfl⟩;go_wp2_with fail
   go_round
   case rel=>exact⟨k+1,zo,zu,by rw[H1];go_num⟩
   case measure=>simp[intOf];omega
  ·obtain rfl:k=n:=zo;go_wp2_with fail;go_ret;exact⟨rfl,rfl⟩
theorem Hq{x:Nat}:∀{l:List Nat},x∈l->x<=l.sum
 |a::l,h=>by
  rw[oU];rcases cV.1 h with rfl|h
  ·omega
  ·have:=Hq h;omega
theorem yG{D:Nat->Option (List UInt8)}{n:Nat}{S:List Nat}{w:World}{G:Gh}(hi:Inv w G D n S):∀(h:Nat) (t:Pl.Tr h) (r:Nat),G r=some ⟨h,t⟩->Pl.GI h t<=50000->∃f,yo w h t r f/\f<=Pl.GI h t/\bG 284 #[dJ r] w λe w'=>e= .returned (.int .i64 (f:Nat))/\w=w'
 |0,t,r,hG,_=>by
  rcases hi.at0 hG with⟨v,h1,h2⟩|⟨a,v,h1,_,h2⟩
  ·exact⟨1,⟨0,v,h1,.inr ⟨rfl,rfl⟩⟩,ai _,U0 r v t w G h1 h2⟩
  ·exact⟨0,⟨a,v,h2,.inl ⟨h1,rfl⟩⟩,zo,MH r a v w h2 h1⟩
 |h+1,t,r,hG,hp=>by
  rcases hi.at0 hG with⟨v,h1,rs,⟨b,rfl,h2⟩,h3,h4,_⟩|⟨a,v,h1,_,h2⟩
  ·have auh:Pl.GI (h+1) t=1+(t.2.map (Pl.GI h)).sum:=rfl;have hpk:∀(j:Nat) (c:Pl.Tr h),t.2[j]?=some c->Pl.GI h c<=50000:=λj c hc=>by have:Pl.GI h c<=(t.2.map (Pl.GI h)).sum:=Hq zw;omega
   have key:∀j:Nat,∃f,∀(x:Nat) (c:Pl.Tr h),rs[j]?=some x->t.2[j]?=some c->yo w h c x f/\f<=Pl.GI h c/\bG 284 #[dJ x] w λe w'=>e= .returned (.int .i64 (f:Nat))/\w=w':=by
    intro j;cases hx:rs[j]? with
    |none=>simp
    |some x=>
     cases hc:t.2[j]? with
     |none=>simp
     |some c=>obtain⟨f,g1,g2,g3⟩:=yG hi h c x zw (hpk j c hc);exact⟨f,λx' c' e1 e2=>by injection e1 with e1;injection e2 with e2;subst e1 e2;exact⟨g1,g2,g3⟩⟩
   obtain⟨F,hF⟩:=Classical.axiomOfChoice key;have hle:Sm F rs.length<=(t.2.map (Pl.GI h)).sum:=by rw[<-YO (Pl.GI h) t.2,h3];refine alv λj hj=>?_;obtain⟨x,hx⟩:∃x,rs[j]?=some x:=⟨_,aF zo⟩;obtain⟨c,hc⟩:∃x,t.2[j]?=some x:=⟨_,aF hj⟩;rw[hc];exact(hF j x c hx hc).2.1
   have bU:t.2.length<=(t.2.map (Pl.GI h)).sum:=by
    have:∀l:List (Pl.Tr h),l.length<=(l.map (Pl.GI h)).sum:=by
     intro l
     induction l with
     |nil=>simp
     |cons a l ih=>
      have:1<=Pl.GI h a:=by cases h with
       |zero=>exact ai _
       |succ h=>show 1<=1+_;omega
      simp;omega
    exact this _
   refine⟨1+Sm F rs.length,⟨0,_,h1,.inr ⟨rfl,rs,F,⟨b,rfl,h2⟩,h3,rfl,λj x c hx hc=>(hF j x c hx hc).1⟩⟩,zo,?_⟩;exact Si r b rs.length h t.1 rs w F h1 h2 rfl zo zo (λj x hx=>by
    obtain⟨c,hc⟩:∃x,t.2[j]?=some x:=⟨_,aF (zA ((cR.1 hx).1))⟩;exact(hF j x c hx hc).2.2)
  ·exact⟨0,⟨a,v,h2,.inl ⟨h1,rfl⟩⟩,zo,MH r a v w h2 h1⟩
theorem Hl(gT:Nat)(m:Tm)(r f:Nat)(w:World)(hT:ny w gT m)(hf:bG 284 #[dJ r] w.drew λe w'=>e= .returned (.int .i64 (f:Nat))/\w.drew=w')(hb:f<=100000/\m.ej<=100000/\m.n<=100000):
 bG 280 #[.pointer (some ⟨gT,0,none⟩),dJ r] w λe w'=>e= .returned (.bool (decide (f+m.ej+2<=m.n)))/\dP w w':=by
 obtain⟨g,first,n,root,saved,seq,ej,bad⟩:=m;obtain⟨c0,c1,c2,c3,c4,c5,c6,c7,cf⟩:=VD hT;dsimp only at hb c2 c6|-
 obtain⟨h1,h2,h3⟩:=hb;have S0:=And.intro c2 c6;have dj:IntKind.i64.wrap ((f:Int)+(ej:Int))=(f:Int)+(ej:Int):=aY _ zo;have iA:IntKind.i64.wrap ((f:Int)+(ej:Int)+2)=(f:Int)+(ej:Int)+2:=aY _ zo;unfold dJ at hf|-
 go_enter Tryz.func280,Tryz.ntmps280;go_wp2_with fail
 go_region_held3 (λW:World=>W.cell? ⟨gT,2,none⟩=some (.int .i64 (n:Nat))/\W.cell? ⟨gT,6,none⟩=some (.int .i64 (ej:Nat))) (first|exact S0|exact S1) (first
  |(go_at_call 284
    refine hf.mono ?_;rintro e w1 ⟨rfl,hww⟩;subst hww;have S1:(w.drew.cell? ⟨gT,2,none⟩=some (.int .i64 (n:Nat))/\w.drew.cell? ⟨gT,6,none⟩=some (.int .i64 (ej:Nat))):=S0)
  |fail)
 go_wp2_with fail;go_ret;have hq:decide ((f:Int)+(ej:Int)+2<=(n:Int))=decide (f+ej+2<=n):=by congr 1;exact propext zo
 exact⟨by rw[<-hq];rfl,(ak _ _).drew⟩
def pz(w:World):Prop:=w.cell? ⟨1,0,none⟩=some (.string (ar []))/\w.cell? ⟨1,1,none⟩=some (.string (ar []))/\w.cell? ⟨1,2,none⟩=some (.bool true)
theorem pz.Ir(h:pz w)(hf:iu w w'):pz w':=⟨hf.ev _ _ rfl h.1,hf.ev _ _ rfl h.2.1,hf.ev _ _ rfl h.2.2⟩
def Tm.to(m:Tm)(r:Nat):Tm:={m with root:=r}
def fe.to(r:Nat):fe:={E with m:=E.m.to r}
structure F5(gT:Nat)(w w':World):Prop where
 only:∃F,ag F w w'/\bR F w [265,108,242]
 ev:∀(p:Addr) (s:Value),p.block≠gT->oC s=true->w.cell? p=some s->w'.cell? p=some s
 low:ag Zn w w'
 refs:∀r a v,cX w r a v->∃v',cX w' r a v'/\(v'=v\/v= .nilIface)
theorem iu.Q4(h:iu w w'):F5 gT w w':=by obtain⟨F,h1,h2⟩:=h.only;exact⟨⟨F,h1,λk hk=>by obtain⟨t,h3,h4⟩:=h2 k hk;grind⟩,λp s _=>h.ev p s,h.low,h.refs⟩
theorem F5.trans{gT:Nat}{a b c:World}(h:F5 gT a b)(k:F5 gT b c):F5 gT a c:=by
 obtain⟨F,h1,h2⟩:=h.only;obtain⟨F',k1,k2⟩:=k.only;refine⟨⟨λx=>F x\/(x<a.heap.size/\F' x),(h1.mono zS).trans k1 zS,?_⟩,λp s hp hs hc=>k.ev p s hp hs (h.ev p s hp hs hc),h.low.aE k.low,λr x v hr=>by
  obtain⟨v',e1,e2⟩:=h.refs r x v hr;obtain⟨v2,e3,e4⟩:=k.refs r x v' e1
  grind⟩
 rintro x (hx|⟨hx,hF⟩)
 ·exact h2 x hx
 ·rcases Classical.em (F x)with hf|hf
  ·exact h2 x hf
  ·obtain⟨t,ht,cs,fz,hcs⟩:=k2 x hF;exact⟨t,ht,cs,fz,(h1.block x hx hf).symm.trans hcs⟩
theorem F5.aC(h:F5 gT w w'){t:TypeId}{cs:List Value}(hb:ay w k t cs)(h1:t∉ [265,108,242]):ay w' k t cs:=by obtain⟨F,ho,hF⟩:=h.only;exact ho.cY hF hb h1
theorem TW.root{E:fe}{rd:Int}(h:TW E w rd G)(r:Nat):TW (E.to r) (w.setCell ⟨E.gT,3,none⟩ (dJ r)) rd G/\F5 E.gT w (w.setCell ⟨E.gT,3,none⟩ (dJ r)):=by have ho:ag (·=E.gT) w (w.setCell ⟨E.gT,3,none⟩ (dJ r)):=(ag.refl (·=E.gT) w).setCell (p:=⟨E.gT,3,none⟩) zu _;have hk:=aD h.tree;exact⟨⟨h.tree.bw 3 _,h.gq.iC ho hk zj zj,h.inv.only ho hk zj zj,h.aA,⟨h.low.g,h.low.d,h.low.t⟩,ao h.aq ho.size⟩,⟨⟨_,ho,λk uk=>by subst uk;exact⟨242,zu,h.tree.dV⟩⟩,λp s hp _ hc=>ho.cell hc hp,ho.mono (λx _ hx=>by rw[hx];exact h.low.t),λr a v hr=>⟨v,ho.aC hr (hr.ne h.tree zj),.inl rfl⟩⟩⟩
theorem ahE(hr:r.1=[t]):Pl.upR r=⟨h,t⟩:=by unfold Pl.upR;rw[hr]
theorem acM(hr:r.1.length≠1):Pl.upR r=⟨h+1,((r.2,r.1):List Pl.Key×List (Pl.Tr h))⟩:=by
 unfold Pl.upR
 grind
theorem abj{c:Pl.Tr h}(hn:n.2=[c]):Pl.Dn ⟨h+1,n⟩=⟨h,c⟩:=by
 obtain⟨ks,cs⟩:=n;rw[Pl.xB]
 grind
theorem WD(hn:n.2.length≠1):Pl.Dn ⟨h+1,n⟩=⟨h+1,n⟩:=by
 obtain⟨ks,cs⟩:=n;rw[Pl.xB]
 grind
def OJ(k:Nat)(rd:Int)(G:Gh)(x:Pl.Any)(none_:Prop)(w:World)(e:Ending)(w':World):Prop:=
 (∃G' cO r' fr,e= .returned (.tuple #[])/\TW (E.to r') w' cO G'/\Ext G G'/\G' r'=some x/\yo w' x.1 x.2 r' fr/\fr+E.m.ej+2<=E.m.n/\F5 E.gT w w'/\tF k rd cO/\¬none_)
 \/(∃G' cO fr,e=gU 5/\TW E w' cO G'/\Ext G G'/\F5 E.gT w w'/\tF k rd cO/\fr<=Pl.GI x.1 x.2/\E.m.n<fr+E.m.ej+2/\¬none_)
 \/(E.d.aW=0/\e=gU 3/\(∃cO,aJ w' E.m.g E.vD E.d cO)/\F5 E.gT w w'/\ny w' E.gT E.m)
 \/(none_/\e=gU 8/\∃G' cO,TW E w' cO G'/\Ext G G'/\F5 E.gT w w'/\tF k rd cO)
theorem yo.cells{w w':World}(hr:∀r a v,cX w r a v->cX w' r a v)(hp:∀v pg,iq w v pg->iq w' v pg):∀(h:Nat) (t:Pl.Tr h) (r f:Nat),yo w h t r f->yo w' h t r f
 |0,t,r,f,⟨a,v,h1,h2⟩=>⟨a,v,hr _ _ _ h1,h2⟩
 |h+1,t,r,f,⟨a,v,h1,h2⟩=>⟨a,v,zw,h2.imp id λ⟨h3,rs,F,h4,h5,h6,h7⟩=>⟨h3,rs,F,zw,h5,h6,λj x c hx hc=>yo.cells hr hp h c x (F j) zw⟩⟩
theorem yo.only{F:Nat->Prop}{w w':World}{ts:List TypeId}(ho:ag F w w')(hF:bR F w ts)(h1:265∉ts)(h2:∀t∈er,t∉ts){h:Nat}{t:Pl.Tr h}{r f:Nat}(h3:yo w h t r f):yo w' h t r f:=
 yo.cells (λ_ _ _ hr=>ho.cY hF hr h1) (λ_ _ hp=>hp.only ho hF h2) h t r f h3
theorem iQ.parts{n ca cb:Nat}{A B:Option Addr}(hr:iQ w G h (.agg #[.slice A n ca,.slice B k cb]) r):n=r.2.length/\k=r.1.length/\n<=ca/\k<=cb/\dn w A (bo r.2) 9/\∃vs,dn w B vs 263/\vs.length=r.1.length/\
 ∀(i:Nat) (v:Value) (t:Pl.Tr h),vs[i]?=some v->r.1[i]?=some t->fN w G v h t none:=by
 obtain⟨A',vR,B',cb',vs,e,h1,h2,h3,h4,h5,h6⟩:=hr
 grind
theorem Ur(K:FuncId)(cg:Array Value)(f:List Pl.Pr->List Pl.Pr)(none_:List Pl.Pr->Prop)(key:Pl.Key)(hK:∀(args:Array Value) (W:World),(callFunc K args).run Tryz.prog W= .ok (.enter K args) W)
 (hf:∀ps:List Pl.Pr,Pl.sW 0 ps->(∀p∈f ps,Pl.la p)/\Pl.j5 (f ps)<=400) (hn:E.m.n<=4096) (Mf:E.m.ej<=4096) (h:Nat) (t:Pl.Tr h) (w:World) (rd:Int) (G:Gh) (hw:TW E w rd G) (hG:G E.m.root=some ⟨h,t⟩) (gP:Pl.ix ⟨h,t⟩) (hh:h<=62)
 (UM:Pl.GI (Pl.iB f key ⟨h,t⟩).1 (Pl.iB f key ⟨h,t⟩).2<=50000) (hF:FOk K cg key f none_ w) (yR:pz w):
 bG 314 #[.pointer (some ⟨E.gT,0,none⟩),.string (ar key),.func (.func K) #[] cg] w (OJ E (2*(h+1)) rd G (Pl.iB f key ⟨h,t⟩) (none_ (Pl.fP h t key)) w):=by
 have yl:Pl.Hc [] none key:=⟨Pl.afX key,λy hy=>by cases hy⟩;obtain⟨hrf,hsp⟩:=gP;obtain⟨TP,Uq⟩:=Pl.pG key hf h t hrf;have Gc:Pl.iB f key ⟨h,t⟩=Pl.Dn (Pl.upR (Pl.changed f key h t)):=rfl;have uy:=zi (λ(W:World) (hW:TW E W rd G) (hFW:FOk K cg key f none_ W)=>FT E K cg f none_ key hK hf hn h t E.m.root 0 [] none W rd G hW hG hrf hsp yl zo hFW);obtain⟨x9,Yz⟩:=ze (Pl.iB f key ⟨h,t⟩);rw[Yz]at Gc UM|-
 obtain⟨ROW,aoi⟩:=ze (Pl.changed f key h t);rw[aoi]at uy TP Uq Gc;have bU:ROW.1.length=ROW.2.length+1:=by
  rcases TP with h1|⟨h1,t',h2,_⟩
  ·exact h1.1
  ·rw[h1,h2];rfl
 obtain⟨Bz,amS,HNR,aau,HW⟩:=OW bU Uq Gc UM hw;have e0:iR [] none= .agg #[.string (ar []),.string (ar []),.bool true]:=rfl;rw[e0]at uy;unfold dJ at uy;obtain⟨root,Aq⟩:=ze E.m.root;have cells:∀W,iu w W->(W.cell? ⟨E.gT,3,none⟩=some (.pointer (some ⟨root,0,none⟩))/\W.cell? ⟨1,0,none⟩=some (.string (ar []))/\W.cell? ⟨1,1,none⟩=some (.string (ar []))/\W.cell? ⟨1,2,none⟩=some (.bool true)):=λW hT=>by have h1:=hT.aC hw.tree zj zj;have h2:=yR.Ir hT;exact⟨Aq▸h1.cell 3,h2.1,h2.2.1,h2.2.2⟩
 obtain⟨CELLS,C0⟩:=dz cells (cells w (iu.refl w));rw[Aq]at uy;have HT0:Hid (iu w w.drew):=iu.ae ((ak w.heap.size w).drew);have HC1:=zi (uy w.drew (hw.aa ((ak w.heap.size w).drew)) (hF.Ir HT0));obtain⟨W1,tC⟩:=ze (World.alloc w.drew (.cells #[.slice none 0 0,.slice none 0 0] 421));have jM:Below w.heap.size w W1:=by rw[<-tC];exact((ak w.heap.size w).drew).alloc (ai _) _
 have HTA:Hid (iu w W1):=iu.ae jM;obtain⟨gx,hgx⟩:=ze (Array.size (World.heap w.drew));have amn:w.heap.size=gx:=hgx;have Rk:=zi amn;have BX1:Hid (ay W1 gx 421 [.slice none 0 0,.slice none 0 0]):=by rw[Hid,<-tC,<-hgx];exact ay.new w.drew 421 _
 obtain⟨CA,HC2⟩:=dz (CELLS W1 HTA) (uy W1 (hw.aa jM) (hF.Ir HTA));clear Yz hw hF yR hG hrf hsp yl TP Uq Gc UM bU aoi Aq cells jM amn uy;go_enter Tryz.func314,Tryz.ntmps314
 go_upto_region 0 with fail
 go_cut [6]from 11 (λs6 wx=>∃(gx:Nat) (G1:Gh) (Fv:Int) (Ak:Option Addr) (ca:Nat) (Ap:Option Addr) (cb:Nat),s6= .pointer (some ⟨gx,0,none⟩)/\Hid (ay wx gx 421 [.slice Ak ROW.2.length ca,.slice Ap ROW.1.length cb])/\Hid (TW E wx Fv G1)/\Hid (Ext G G1)/\Hid (iu w wx)/\Hid (tF (2*(h+1)) rd Fv/\¬none_ (Pl.fP h t key))/\Hid (iQ wx G1 h (.agg #[.slice Ak ROW.2.length ca,.slice Ap ROW.1.length cb]) ROW))
 case first=>
  refine aN 10 (λW=>W.cell? ⟨E.gT,3,none⟩=some (.pointer (some ⟨root,0,none⟩))/\W.cell? ⟨1,0,none⟩=some (.string (ar []))/\W.cell? ⟨1,1,none⟩=some (.string (ar []))/\W.cell? ⟨1,2,none⟩=some (.bool true)) (λ_=>True) zp C0 trivial (λaz=>?_);refine zt 0 (h:=zt 1 (h:=zt 2 (h:=zt 3 (h:=zl 4 (h:=zl 5 (h:=zt 6 (h:=zt 7 (h:=?_))))))));(try simp only[Act.put,zq1,zq2,zP,zq4,zq5,RR]);refine j6 (rs:=[8,9]) zp zu ?_;refine kX.cons (o:=_) rfl (λK hK=>?_) (kX.cons (o:=_) rfl (λK hK=>?_) kX.nil)
  ·go_simp;refine HC1.mono ?_;rintro e w1 h1;rcases h1 with(⟨v1,G1,Fv,rfl,acO,hE1,Iy,Px,hP1,hY1⟩|⟨fK,rfl,⟨J7,Kf⟩,mm⟩)|⟨hno,rfl,G6,rd6,hW6,hE6,GU,Ua⟩;rotate_left
   ·obtain⟨wE,HD5,Oh⟩:=kt fK Kf mm;clear fK Kf mm;unfold gU;go_wp2_with fail;exact⟨rfl,.inr (.inr (.inl ⟨wE,rfl,⟨J7,HD5⟩,((HT0).trans Oh).Q4,((HT0).trans Oh).aC HW.tree zj zj⟩))⟩
   ·obtain⟨Uc,HW6,HE6,HT6,Vd⟩:=OW hno hW6 hE6 GU Ua;clear hno hW6 hE6 GU Ua;unfold gU;go_wp2_with fail;exact⟨rfl,.inr (.inr (.inr ⟨Uc,rfl,G6,rd6,HW6,HE6,((HT0).trans HT6).Q4,Vd⟩))⟩
   obtain⟨HQ1,PQ⟩:=dz hP1 hY1;clear hY1;obtain⟨Ak,ck,Ap,cp,vs,rfl,_⟩:=hP1;obtain⟨W2,hW2⟩:=ze (World.alloc w1 (.cells #[.slice none 0 0,.slice none 0 0] 421));have bz:Below w1.heap.size w1 W2:=by rw[<-hW2];exact(ak w1.heap.size w1).alloc (ai _) _
   obtain⟨gy,hgy⟩:=ze (Array.size (World.heap w1));have BY:Hid (ay W2 gy 421 [.slice none 0 0,.slice none 0 0]):=by rw[Hid,<-hW2,<-hgy];exact ay.new w1 421 _
   have HT1:Hid (iu w w1):=HT0.trans Iy;have tl:Hid (iu w W2):=HT1.aa bz;have HLT:Hid (w.heap.size<=gy):=by rw[Hid,<-hgy];exact HT1.size
   obtain⟨Mi,Pw,CQ,HQ2,C1,C2⟩:=zh6 (acO.aa bz) hE1 Px (HQ1.aa bz) (CELLS w1 HT1) (CELLS W2 tl);clear acO hE1 Iy Px bz;go_wp2_with fail;refine hK.out _ _ ⟨λ_=>C1,trivial⟩ (λaz=>?_);clear hK K;refine zr 9 λK hK=>?_;go_simp;(try rw[hW2]);refine hK.out _ _ ⟨λ_=>C2.out,trivial⟩ (λaz=>?_);clear hK K;(try simp only[Act.put,zq1,zq2,zP,zq4,zq5,RR]);obtain⟨x0,x1,y0,y1⟩:=aO BY;refine zr 10 λK hK=>?_;go_simp;refine hK.out _ _ ⟨zk zp,trivial⟩ (λaz=>?_);clear hK K;(try simp only[Act.put,zq1,zq2,zP,zq4,zq5,RR]);refine bh zp ?_ _;clear az;go_wp2_with fail;go_meet
   case rel=>have ho:=ng W2 gy (.slice Ak ROW.2.length ck) (.slice Ap ROW.1.length cp);have hk:=aD BY;exact⟨gy,G1,Fv,Ak,ck,Ap,cp,rfl,(BY.bw 0 _).bw 1 _,Mi.only ho hk zj zj zj zj zj,Pw,tl.since ho (λx hx e=>by have:=HLT.out;omega),⟨CQ.out,PQ.out⟩,mo BY.out HQ2.out⟩
  ·go_simp;(try rw[tC]);refine hK.out _ _ ⟨λ_=>CA,trivial⟩ (λaz=>?_);clear hK K;refine zr 8 λK hK=>?_;go_simp;refine HC2.mono ?_;rintro e w2 h1;rcases h1 with(⟨v1,G1,Fv,rfl,acO,hE1,Iy,Px,hP1,hY1⟩|⟨fK,rfl,⟨J7,Kf⟩,mm⟩)|⟨hno,rfl,G6,rd6,hW6,hE6,GU,Ua⟩;rotate_left
   ·obtain⟨wE,HD5,Oh⟩:=kt fK Kf mm;clear fK Kf mm;unfold gU;go_wp2_with fail;exact⟨rfl,.inr (.inr (.inl ⟨wE,rfl,⟨J7,HD5⟩,((HTA).trans Oh).Q4,((HTA).trans Oh).aC HW.tree zj zj⟩))⟩
   ·obtain⟨Uc,HW6,HE6,HT6,Vd⟩:=OW hno hW6 hE6 GU Ua;clear hno hW6 hE6 GU Ua;unfold gU;go_wp2_with fail;exact⟨rfl,.inr (.inr (.inr ⟨Uc,rfl,G6,rd6,HW6,HE6,((HTA).trans HT6).Q4,Vd⟩))⟩
   obtain⟨HQ2,PQ⟩:=dz hP1 hY1;clear hY1;obtain⟨Ak,ck,Ap,cp,vs,rfl,_⟩:=hP1;have BY:=zi (Iy.aC BX1 zj zj);have tl:Hid (iu w w2):=HTA.trans Iy;obtain⟨Mi,Pw,CQ,C2⟩:=yx acO hE1 Px (CELLS w2 tl);clear acO hE1 Iy Px;obtain⟨x0,x1,y0,y1⟩:=aO BY;go_wp2_with fail;refine hK.out _ _ ⟨λ_=>C2,trivial⟩ (λaz=>?_);clear hK K;refine zr 10 λK hK=>?_;go_simp;refine hK.out _ _ ⟨zk zp,trivial⟩ (λaz=>?_);clear hK K;(try simp only[Act.put,zq1,zq2,zP,zq4,zq5,RR]);refine bh zp ?_ _;clear az;go_wp2_with fail;go_meet
   case rel=>have ho:=ng w2 gx (.slice Ak ROW.2.length ck) (.slice Ap ROW.1.length cp);have hk:=aD BY;exact⟨gx,G1,Fv,Ak,ck,Ap,cp,rfl,(BY.bw 0 _).bw 1 _,Mi.only ho hk zj zj zj zj zj,Pw,tl.since ho (λx hx e=>by have:=Rk.out;omega),⟨CQ.out,PQ.out⟩,mo BY.out HQ2.out⟩
 case rest=>
  obtain⟨gy,G1,Fv,Ak,ca,Ap,cb,rfl,Mj,HWX,HEX,St,HRX,HQX⟩:=hcut;obtain⟨wx,Vq,Mj,HWX,St,HQX⟩:∃x,x=wc/\Hid (ay x gy 421 [.slice Ak ROW.2.length ca,.slice Ap ROW.1.length cb])/\Hid (TW E x Fv G1)/\Hid (iu w x)/\Hid (iQ x G1 h (.agg #[.slice Ak ROW.2.length ca,.slice Ap ROW.1.length cb]) ROW):=⟨wc,rfl,Mj,HWX,St,HQX⟩;subst Vq;have HR1:Hid (tF (2*(h+1)) rd Fv):=HRX.1;have PQ:Hid (¬none_ (Pl.fP h t key)):=HRX.2;obtain⟨_,_,GJ,zV,hka,vs,hpb,PD,hve⟩:=iQ.parts HQX;obtain⟨x8,hx8⟩:=ze (Pl.upR ROW);have HX8:=zi hx8;have HN8:Hid (x9=Pl.Dn x8):=by rw[Hid,<-hx8];exact HNR
  have hrf:=QM Ap cb h vs ROW.1 wx G1 hpb PD (zC Bz.out amS.out) hve;obtain⟨HVE,HVL,HKA⟩:=kt hve PD hka;obtain⟨k,hk⟩:=ze ROW.1.length;have HK:=zi hk;have ID:Hid (ROW.2.length<=ca/\0<k/\k<=4):=⟨GJ,by have:=Bz.out;omega,by have:=Bz.out;have:=amS.out;omega⟩;obtain⟨c0,c1,d0,d1⟩:=aO Mj;rw[hk]at hrf c1;have HRF:=zi hrf;have q2:(0:Int)<(k:Int):=zA ID.out;obtain⟨L,hL⟩:=ze (decide ((1:Int)<(k:Int)));have HL:=zi hL;clear hrf hve PD hka hk GJ zV hpb hx8 HRX;go_wp2_with fail;refine HRF.mono ?_;rintro e wy ⟨v,rs,rfl,hrw,lb,pr⟩;obtain⟨AB,cB,rfl,hcB,htB,_⟩:=hrw.eo;have s9:rs.length=k:=lb.1;obtain⟨r0,Y0⟩:∃x,rs[0]?=some x:=⟨_,aF (zA ID.out)⟩;obtain⟨bk,off,rfl,g0⟩:=htB.1.dm _ _ (iX Y0);unfold dJ at g0;rw[cI]at g0;obtain⟨i2,e2,k2⟩:=HWX.inv.refs pr (lb.1.trans HK.symm) HVL lb.2.1 (λr hr=>(lb.2.2.1 r hr).1) lb.2.2.2 HVE;obtain⟨G2,hG2⟩:=ze (G1.kids wx.heap.size h rs ROW.1);rw[hG2]at i2 e2 k2;have Vq:=HWX.aa pr;have Mi:Hid (TW E wy Fv G2):=⟨Vq.tree,Vq.gq,i2,Vq.aA,⟨λk x hk=>by rw[<-hG2]at hk;exact(Gh.JN hk).elim (HWX.low.g k x) (λhl=> .inl (ao HWX.aq hl)),Vq.low.d,Vq.low.t⟩,Vq.aq⟩;obtain⟨Pw,agW,tl,HK2,HR0⟩:=OW (HEX.trans e2) e2 (St.aa pr) k2 Y0;have Gr:Hid (∀(i r:Nat) (v:Value),rs[i]?=some r->vs[i]?=some v->cX wy r 0 v):=lb.2.2.2;obtain⟨T9,Dx,HCB,Pm,asp,HBY⟩:=zh6 htB s9 hcB (Mj.aa pr Mj.lt) (HKA.aa pr) pr;clear c0 c1 d0 d1;obtain⟨c0,_,_,_⟩:=aO Pm;rw[s9]at hcB|-
  have HCB:=zi hcB;clear hrw lb pr s9 Y0 i2 e2 k2 hG2 Vq htB hcB
  go_upto_if 28 with fail
  go_cut [8]from 29 (λs8 wz=>∃(r8:Nat) (v8:Value) (G3:Gh),s8= .pointer (some ⟨r8,0,none⟩)/\Hid (G3 r8=some x8)/\Hid (cX wz r8 0 v8)/\Hid (fN wz G3 v8 x8.1 x8.2 none)/\Hid (TW E wz Fv G3)/\Hid (Ext G G3)/\Hid (iu w wz))
  case first=>
   cases L
   ·have rP:k=1:=zC (of_decide_eq_false HL) ID.out;obtain⟨x,hx⟩:∃x,ROW.1=[x]:=qy.1 (HK.trans rP);obtain⟨v,hv⟩:∃v,vs[0]?=some v:=⟨_,aF (zC HVL.out HK.out)⟩;have HP9:Hid (fN wy G2 v h x none):=((HVE 0 v x hv (by rw[hx];rfl)).aa HBY).ext agW;have HR9:Hid (cX wy r0 0 v):=Gr.out 0 r0 v HR0 hv;have HG9:Hid (G2 r0=some ⟨h,x⟩):=HK2 0 r0 x HR0 (by rw[hx];rfl);have HX9:Hid (x8=⟨h,x⟩):=HX8.symm.trans (ahE hx);clear rP hx hv;go_wp2_with fail;go_meet
    case rel=>exact⟨r0,v,G2,rfl,by rw[HX9.out];exact HG9,HR9,by rw[HX9.out];exact HP9,Mi,Pw,tl⟩
   ·have rP:1<k:=zA (jd HL);obtain⟨gi,hgi⟩:=ze wy.heap.size;obtain⟨wi,hwi⟩:=ze (wy.alloc (.cells #[.slice Ak ROW.2.length ca,.slice (some ⟨bk,off,none⟩) k cB] 383));obtain⟨gp,hgp⟩:=ze wi.heap.size;obtain⟨wp,YQ⟩:=ze (wi.alloc (.cells #[.int .i64 0,.iface 377 (.pointer (some ⟨gi,0,none⟩))] 265));have Yn:=zb hwi;have FK:=zb YQ;have Ji:=Yn.trans (FK.mono Yn.size);have arJ:=zi Ji;have BI:dZ wi gi ROW.2 rs:=by
     have B0:ay wi gi 383 [.slice Ak ROW.2.length ca,.slice (some ⟨bk,off,none⟩) rs.length cB]:=by rw[Dx.out,<-hwi,<-hgi];exact ay.new wy 383 _
     exact⟨_,ca,_,cB,B0,ID.1,by rw[Dx.out];exact HCB,asp.aa Yn,T9.aa Yn⟩
    have HX9:Hid (x8=⟨h+1,((ROW.2,ROW.1):List Pl.Key×List (Pl.Tr h))⟩):=HX8.symm.trans (acM (zA HK.out));have hpi:fN wi G2 (eG gi) (h+1) ((ROW.2,ROW.1):List Pl.Key×List (Pl.Tr h)) none:=⟨rs,⟨gi,rfl,BI⟩,Dx.trans HK.symm,HK2,λs hs=>by cases hs⟩;have HRP:Hid (cX wp gp 0 (eG gi)):=by rw[Hid,<-YQ,<-hgp];exact ay.new wi 265 _
    obtain⟨i3,e3⟩:=(Mi.inv.aa Yn).add hpi FK (gF hgp) HRP;obtain⟨HE3,HPI⟩:=dz e3 ((hpi.aa FK).ext e3);have HW3:Hid (TW E wp Fv (G2.add gp ⟨h+1,((ROW.2,ROW.1):List Pl.Key×List (Pl.Tr h))⟩)):=⟨(Mi.aa Ji).tree,(Mi.aa Ji).gq,i3,Mi.aA,⟨λk x hk=>(Gh.afs hk).elim (Mi.low.g k x) (λe=>by rw[e,<-hgp];exact .inl (ao Mi.aq Yn.size)),Mi.low.d,Mi.low.t⟩,(Mi.aa Ji).aq⟩;clear Yn FK Ji BI rP i3 e3 hpi;go_wp2_with fail;go_meet
    case rel=>exact⟨gp,eG gi,_,rfl,by rw[HX9.out];exact Gh.abQ _ _ _,HRP,by rw[HX9.out];exact HPI,HW3,Pw.trans HE3,tl.aa arJ⟩
  case rest=>
   obtain⟨r8,v8,G3,rfl,HG8,HR8,HP8,HW8,HE8,Wv⟩:=hcut;obtain⟨w8,XO,HR8,HP8,HW8,Wv⟩:∃x,x=wc/\Hid (cX x r8 0 v8)/\Hid (fN x G3 v8 x8.1 x8.2 none)/\Hid (TW E x Fv G3)/\Hid (iu w x):=⟨wc,rfl,HR8,HP8,HW8,Wv⟩;subst XO;clear HX8;have EN:∀(b:Nat) (W:World),(Instr.typeAssert (.iface 343 (.pointer (some ⟨b,0,none⟩))) 263 377 true).run Tryz.prog W= .ok (.tuple #[.pointer none,.bool false]) W:=λb W=>by kernel_rfl
   have YY:∀(b:Nat) (W:World),(Instr.typeAssert (.iface 377 (.pointer (some ⟨b,0,none⟩))) 263 377 true).run Tryz.prog W= .ok (.tuple #[.pointer (some ⟨b,0,none⟩),.bool true]) W:=λb W=>by kernel_rfl
   obtain⟨x0,x1,_,_⟩:=aO HR8;have c1:=x1;clear x0 x1;obtain⟨h8,t8⟩:=x8;cases h8 with
   |zero=>
    obtain⟨b,rfl,_⟩:=HP8.out;obtain⟨r9,hr9⟩:∃x,x=r8:=⟨_,rfl⟩;subst hr9;have HG9:Hid (G3 r9=some x9):=by rw[Hid,HN8.out];exact HG8
    unfold fR at c1;obtain⟨fr,tu,RD,Sx⟩:=yG (HW8.aa ((ak w8.heap.size w8).drew)).inv x9.1 x9.2 r9 HG9 aau;have HFN:Hid (yo w8 x9.1 x9.2 r9 fr):=yo.cells (w:=w8.drew) (w':=w8) (λ_ _ _ q=>q) (λ_ _ q=>q) _ _ _ _ tu;have CE:=Hl E.gT E.m r9 fr w8 HW8.tree Sx ⟨by have:=aau.out;omega,zo,zo⟩;obtain⟨LL,hLL⟩:=ze (decide (fr+E.m.ej+2<=E.m.n));rw[hLL]at CE;obtain⟨HLL,HFL⟩:=dz hLL RD;unfold dJ at CE;have Xm:=zi CE;clear tu RD Sx CE hLL;go_wp2_with fail;refine Xm.mono ?_;rintro e w9 ⟨rfl,qA⟩;obtain⟨Sj,HT9⟩:=dz (HW8.aa qA) (Wv.aa qA);have HF9:Hid (yo w9 x9.1 x9.2 r9 fr):=HFN.only (ag.ae qA (λ_=>False)) (gG w8) zu zu;clear qA;cases LL
    ·go_wp2_with fail;refine(oy 5 _).mono ?_;rintro e w' ⟨rfl,rfl⟩;unfold gU;go_wp2_with fail;exact⟨rfl,.inr (.inl ⟨G3,Fv,fr,rfl,Sj,HE8,HT9.Q4,HR1,HFL,by have:=of_decide_eq_false HLL;omega,PQ.out⟩)⟩
    ·have hfz:w9.frozen? ⟨E.gT,3,none⟩=false:=(Sj.tree).frozen 3;have J8:w9.cell? ⟨E.gT,3,none⟩=some (dJ E.m.root):=(Sj.tree).cell 3;have hrt:=Sj.root r9;unfold dJ at hrt J8;have XF:=zi hrt;clear hrt;go_wp2_with fail;go_end0;refine .inl ⟨G3,Fv,r9,fr,rfl,XF.1,HE8,HG9,?_,jd HLL,HT9.Q4.trans XF.2,HR1,PQ⟩;exact HF9.only ((ag.refl (·=E.gT) w9).setCell (p:=⟨E.gT,3,none⟩) (.inl rfl) _) (aD Sj.tree) zj zj
   |succ h8=>
    obtain⟨rs8,⟨b8,rfl,A,cp,A',cp',dM,rX,lC,Ca,PG⟩,akt,acG,_⟩:=HP8.out;obtain⟨n8,PK⟩:=ze rs8.length;obtain⟨_,d1,_,_⟩:=aO dM;dsimp only at akt acG d1;rw[PK]at d1;unfold eG at c1;obtain⟨aiw,HTR,apc,amC⟩:=yx PK PG akt acG;clear dM rX lC Ca PG akt acG PK;by_cases uc:n8=1
    ·obtain⟨r9,hr9⟩:∃x,rs8=[x]:=qy.1 (aiw.trans uc);obtain⟨c,hc⟩:∃x,t8.2=[x]:=qy.1 (apc.symm.trans (aiw.trans uc));have HG9:Hid (G3 r9=some x9):=by rw[Hid,HN8.out,abj hc];exact amC 0 r9 c (by rw[hr9];rfl) (by rw[hc];rfl)
     obtain⟨bk,off,rfl,g0⟩:=HTR.1.dm 0 _ (iX (x:=r9) (by rw[hr9];rfl));unfold dJ at g0;rw[cI]at g0;have q1:((n8:Int)==1)=true:=by subst uc;rfl
     have q3:(0:Int)<(n8:Int):=zo;clear hr9 hc uc;obtain⟨fr,tu,RD,Sx⟩:=yG (HW8.aa ((ak w8.heap.size w8).drew)).inv x9.1 x9.2 r9 HG9 aau;have HFN:Hid (yo w8 x9.1 x9.2 r9 fr):=yo.cells (w:=w8.drew) (w':=w8) (λ_ _ _ q=>q) (λ_ _ q=>q) _ _ _ _ tu;have CE:=Hl E.gT E.m r9 fr w8 HW8.tree Sx ⟨by have:=aau.out;omega,zo,zo⟩;obtain⟨LL,hLL⟩:=ze (decide (fr+E.m.ej+2<=E.m.n));rw[hLL]at CE;obtain⟨HLL,HFL⟩:=dz hLL RD;unfold dJ at CE;have Xm:=zi CE;clear tu RD Sx CE hLL;go_wp2_with fail;refine Xm.mono ?_;rintro e w9 ⟨rfl,qA⟩;obtain⟨Sj,HT9⟩:=dz (HW8.aa qA) (Wv.aa qA);have HF9:Hid (yo w9 x9.1 x9.2 r9 fr):=HFN.only (ag.ae qA (λ_=>False)) (gG w8) zu zu;clear qA;cases LL
     ·go_wp2_with fail;refine(oy 5 _).mono ?_;rintro e w' ⟨rfl,rfl⟩;unfold gU;go_wp2_with fail;exact⟨rfl,.inr (.inl ⟨G3,Fv,fr,rfl,Sj,HE8,HT9.Q4,HR1,HFL,by have:=of_decide_eq_false HLL;omega,PQ.out⟩)⟩
     ·have hfz:w9.frozen? ⟨E.gT,3,none⟩=false:=(Sj.tree).frozen 3;have J8:w9.cell? ⟨E.gT,3,none⟩=some (dJ E.m.root):=(Sj.tree).cell 3;have hrt:=Sj.root r9;unfold dJ at hrt J8;have XF:=zi hrt;clear hrt;go_wp2_with fail;go_end0;refine .inl ⟨G3,Fv,r9,fr,rfl,XF.1,HE8,HG9,?_,jd HLL,HT9.Q4.trans XF.2,HR1,PQ⟩;exact HF9.only ((ag.refl (·=E.gT) w9).setCell (p:=⟨E.gT,3,none⟩) (.inl rfl) _) (aD Sj.tree) zj zj
    ·obtain⟨r9,hr9⟩:∃x,x=r8:=⟨_,rfl⟩;subst hr9;have HG9:Hid (G3 r9=some x9):=by
      have hl:t8.2.length≠1:=by rw[<-apc.out,aiw.out];exact uc
      rw[Hid,HN8.out,show Pl.Dn ⟨h8+1,t8⟩=⟨h8+1,t8⟩from WD hl];exact HG8
     have q1:((n8:Int)==1)=false:=b9.2 zo;clear uc;obtain⟨fr,tu,RD,Sx⟩:=yG (HW8.aa ((ak w8.heap.size w8).drew)).inv x9.1 x9.2 r9 HG9 aau;have HFN:Hid (yo w8 x9.1 x9.2 r9 fr):=yo.cells (w:=w8.drew) (w':=w8) (λ_ _ _ q=>q) (λ_ _ q=>q) _ _ _ _ tu;have CE:=Hl E.gT E.m r9 fr w8 HW8.tree Sx ⟨by have:=aau.out;omega,zo,zo⟩;obtain⟨LL,hLL⟩:=ze (decide (fr+E.m.ej+2<=E.m.n));rw[hLL]at CE;obtain⟨HLL,HFL⟩:=dz hLL RD;unfold dJ at CE;have Xm:=zi CE;clear tu RD Sx CE hLL;go_wp2_with fail;refine Xm.mono ?_;rintro e w9 ⟨rfl,qA⟩;obtain⟨Sj,HT9⟩:=dz (HW8.aa qA) (Wv.aa qA);have HF9:Hid (yo w9 x9.1 x9.2 r9 fr):=HFN.only (ag.ae qA (λ_=>False)) (gG w8) zu zu;clear qA;cases LL
     ·go_wp2_with fail;refine(oy 5 _).mono ?_;rintro e w' ⟨rfl,rfl⟩;unfold gU;go_wp2_with fail;exact⟨rfl,.inr (.inl ⟨G3,Fv,fr,rfl,Sj,HE8,HT9.Q4,HR1,HFL,by have:=of_decide_eq_false HLL;omega,PQ.out⟩)⟩
     ·have hfz:w9.frozen? ⟨E.gT,3,none⟩=false:=(Sj.tree).frozen 3;have J8:w9.cell? ⟨E.gT,3,none⟩=some (dJ E.m.root):=(Sj.tree).cell 3;have hrt:=Sj.root r9;unfold dJ at hrt J8;have XF:=zi hrt;clear hrt;go_wp2_with fail;go_end0;refine .inl ⟨G3,Fv,r9,fr,rfl,XF.1,HE8,HG9,?_,jd HLL,HT9.Q4.trans XF.2,HR1,PQ⟩;exact HF9.only ((ag.refl (·=E.gT) w9).setCell (p:=⟨E.gT,3,none⟩) (.inl rfl) _) (aD Sj.tree) zj zj
end Go.Proofs.YtbhpofdafhahgaaGreatDoor
namespace Go.Proofs.YtbhpofdafhahgaaGreatDoor
open Go.ChangeShapes Go.WideShapes Go.ChangeAt Go.RowKit
theorem Tryz.evn:Tryz.prog.globalNamed "daybook/tree.everything" =some 1:=zp
theorem Tryz.evt:(Tryz.prog.globals[1]?).map (·.type)=some 368:=zp
section
variable {H:Type} {enc:TypeId×Value->H} {P:Program} {w:World} {aq:Nat} {spare:Nat->Bool} {held:Bool}
variable {n:Nat} {t:TypeId} {x:Value} {y:DataW H×List MemPlace}
theorem Dw(hu:P.underlying t=some .string)(h:DataW.trod enc P w aq spare held n t [x]=some y):∃b:ByteArray,x= .string b/\y.1= .lit (.string b.data.toList):=by
 cases n with
 |zero=>simp[DataW.trod]at h
 |succ n=>
  cases x<;>simp[DataW.trod,hu]at h
  grind
theorem KU(hu:P.underlying t=some .bool)(h:DataW.trod enc P w aq spare held n t [x]=some y):∃b:Bool,x= .bool b/\y.1= .lit (.bool b):=by
 cases n with
 |zero=>simp[DataW.trod]at h
 |succ n=>
  cases x<;>simp[DataW.trod,hu]at h
  grind
end
theorem aeo{l:List Value}(h:l.length=3):∃a b c,l=[a,b,c]:=by
 match l,h with
 | [a,b,c],_=>simp
theorem aaK{W:World}(h:laidMet Tryz.prog [("daybook/tree.everything",Rows.laid_daybook_tree_everything)] W):pz W:=by
 obtain⟨ps,⟨g,t,cs,fuel,p,q,e1,e2,e3,e4,_,_⟩,_,_⟩:=h;obtain rfl:1=g:=fB (Tryz.evn.symm.trans e1);obtain rfl:368=t:=fB (Tryz.evt.symm.trans e2);obtain⟨y0,y1,y2,n,hx,hl,h0,h1,h2⟩:=Deep.trod_struct3 Tryz.underlying368 e4;have hs:Tryz.prog.cellsOf 9=1:=zp;have hb:Tryz.prog.cellsOf 4=1:=zp;have h3:Tryz.prog.cellsOf 368=3:=zp;rw[h3]at hl;have hc:=World.var?_cell Tryz.evn e3;obtain⟨l,Pd⟩:=ze cs.toList;have hcs:cs=l.toArray:=by rw[<-Pd]
 rw[Pd]at hl h0 h1 h2;obtain⟨a,b,c,rfl⟩:=aeo hl;dsimp only at h0 h1 h2;rw[hs]at h0 h1;rw[hb]at h2;obtain⟨x0,rfl,z0⟩:=Dw Tryz.underlying9 (show DataW.trod _ _ _ _ _ _ _ 9 [a]=some y0 from h0);obtain⟨x1,rfl,z1⟩:=Dw Tryz.underlying9 (show DataW.trod _ _ _ _ _ _ _ 9 [b]=some y1 from h1);obtain⟨x2,rfl,z2⟩:=KU Tryz.underlying4 (show DataW.trod _ _ _ _ _ _ _ 4 [c]=some y2 from h2);injection hx with hx _;unfold Rows.laid_daybook_tree_everything at hx;rw[z0,z1,z2]at hx;injection hx with hx;simp only[uM,DataW.lit.injEq,Lit.string.injEq,Lit.bool.injEq,and_true]at hx;obtain⟨k0,k1,k2⟩:=hx;have f:∀x:ByteArray,[]=x.data.toList->x=ar []:=λx hx=>by obtain⟨⟨l⟩⟩:=x;have:l=[]:=hx.symm;subst this;rfl
 rw[hcs,f x0 k0,f x1 k1,<-k2]at hc;exact⟨(hc 0).trans rfl,(hc 1).trans rfl,(hc 2).trans rfl⟩
theorem Ej{W:World}(h:laidMetH Tryz.prog [("errors.errorType",Rows.laid_errors_errorType),("daybook/tree.everything",Rows.laid_daybook_tree_everything)] W):GE W/\pz W:=by have h':laidMet Tryz.prog [("daybook/tree.everything",Rows.laid_daybook_tree_everything)] W/\handlesMet Tryz.prog [("errors.errorType",Rows.laid_errors_errorType)] W:=h;exact⟨Kq h'.2 zu,aaK h'.1⟩
noncomputable def Cu(os:Os):World:=
 let w0:=ZR os
 {w0 with heap:=w0.heap.modify 1 λ
  | .cells _ t frozen=> .cells #[.string ⟨#[]⟩,.string ⟨#[]⟩,.bool true] t frozen
  |o=>o}
theorem Jf(os:Os)(args:Array Value):laidMetH Tryz.prog [("errors.errorType",Rows.laid_errors_errorType),("daybook/tree.everything",Rows.laid_daybook_tree_everything)] ((Cu os).forCall (λ_ _=>0) ⟨#[],args,[]⟩).memory:=
 laidMetH_of_parts (laidMet_of_run (l:=[("daybook/tree.everything",Rows.laid_daybook_tree_everything)]) (ps:=[.cell 1 0,.cell 1 1,.cell 1 2]) 8 zp zu zp) zp
namespace Pl
variable {k v:Key} {A M B ps:List Pr} {q:Key->Bool}
theorem pd(k:Key):∀ps:List Pr,qu ps->∃A M B,ps=A++(M++B)/\(∀a∈A,a.key<k)/\(M=[]\/∃m:Pr,M=[m]/\m.key=k)/\∀b∈B,k<b.key
 | [],_=>⟨[],[],[],rfl,zu,.inl rfl,zu⟩
 |p::ps,h=>by
  obtain⟨h1,h2⟩:=lM.1 h;by_cases hp:p.key<k
  ·obtain⟨A,M,B,e,a1,a2,a3⟩:=pd k ps h2
   grind
  ·by_cases hk:k<p.key
   ·exact⟨[],[],p::ps,rfl,zu,.inl rfl,zw⟩
   ·have e:p.key=k:=zw;exact⟨[],[p],ps,rfl,zu,zw,zw⟩
theorem EF(hA:∀a∈A,a.key<k)(hM:M=[]\/∃m:Pr,M=[m]/\m.key=k)(hB:∀b∈B,k<b.key):aR (A++(M++B)) k=A.length:=by
 rw[qI hA];have:aR (M++B) k=0:=by
  unfold aR;rcases hM with rfl|⟨m,rfl,hm⟩
  ·cases B with
   |nil=>rfl
   |cons b B=>have h1:=hB b zu;rw[aX,jZ,aj zw];rfl
  simp_all
 omega
theorem uA(hA:∀a∈A,a.key<k)(hM:M=[]\/∃m:Pr,M=[m]/\m.key=k)(hB:∀b∈B,k<b.key):dN k v (A++(M++B))=A++⟨k,v⟩::B:=by
 rw[CP];unfold sK;rw[EF hA hM hB,ik rfl,iI zo,jT];rcases hM with rfl|⟨m,rfl,hm⟩
 ·grind
 simp_all
theorem vx(hA:∀a∈A,a.key<k)(hM:M=[]\/∃m:Pr,M=[m]/\m.key=k)(hB:∀b∈B,k<b.key):dI k (A++(M++B))=M.head?.map Pr.val:=by
 unfold dI;rw[EF hA hM hB,iI zo,jT]
 grind
theorem NL(hA:∀a∈A,a.key<k)(hM:M=[]\/∃m:Pr,M=[m]/\m.key=k)(hB:∀b∈B,k<b.key)(hn:M≠ []):Ld k (A++(M++B))=A++B:=by
 unfold Ld;rw[EF hA hM hB,ik rfl];rcases hM with rfl|⟨m,rfl,hm⟩
 ·grind
 simp
def jw(q:Key->Bool)(ps:List Pr):List Pr:=ps.filter (λp=>q p.key)
theorem ez(q:Key->Bool)(a b:List Pr):jw q (a++b)=jw q a++jw q b:=AX ..
theorem adI(h:∀p∈ps,p.key<k):∀p∈jw q ps,p.key<k:=λp hp=>h p (uO.1 hp).1
theorem aeK(h:∀p∈ps,k<p.key):∀p∈jw q ps,k<p.key:=λp hp=>h p (uO.1 hp).1
theorem rU(h:qu ps):jw q (dN k v ps)=if q k then dN k v (jw q ps)else jw q ps:=by
 obtain⟨A,M,B,rfl,hA,hM,hB⟩:=pd k ps h;rw[uA hA hM hB];cases hq:q k with
 |true=>
  have e:jw q (A++(M++B))=jw q A++(M++jw q B):=by
   rw[ez,ez];rcases hM with rfl|⟨m,rfl,hm⟩
   ·rfl
   ·have:jw q [m]=[m]:=by unfold jw;grind
    grind
  rw[ah rfl,e,uA (adI hA) hM (aeK hB),ez];unfold jw
  grind
 |false=>
  rw[aj zu,ez,ez,ez];have e1:jw q (⟨k,v⟩::B)=jw q B:=by unfold jw;grind
  have e2:jw q M=[]:=by
   rcases hM with rfl|⟨m,rfl,hm⟩
   ·rfl
   ·unfold jw;grind
  grind
theorem MQ(h:qu ps)(hk:rD k ps=true):jw q (Ld k ps)=if q k then Ld k (jw q ps)else jw q ps:=by
 obtain⟨A,M,B,rfl,hA,hM,hB⟩:=pd k ps h;have hn:M≠ []:=λe=>by subst e;rw[CI,vx hA zo hB]at hk;cases hk
 rw[NL hA hM hB hn];cases hq:q k with
 |true=>
  have e:jw q (A++(M++B))=jw q A++(M++jw q B):=by
   rw[ez,ez];rcases hM with rfl|⟨m,rfl,hm⟩
   ·grind
   ·have:jw q [m]=[m]:=by unfold jw;grind
    grind
  rw[ah rfl,e,NL (adI hA) hM (aeK hB) hn,ez]
 |false=>
  rw[aj zu,ez,ez,ez];have e2:jw q M=[]:=by
   rcases hM with rfl|⟨m,rfl,hm⟩
   ·rfl
   ·unfold jw;grind
  grind
theorem fQ{k':Key}(h:qu ps):dI k' (dN k v ps)=if k'=k then some v else dI k' ps:=by
 have hs:∀x:List Pr,qu x->dI k' x=(jw (λy=>decide (y=k')) x).head?.map Pr.val:=λx hx=>by
  obtain⟨A,M,B,rfl,hA,hM,hB⟩:=pd k' x hx;rw[vx hA hM hB,ez,ez];have eA:jw (λy=>decide (y=k')) A=[]:=np.2 zw;have eB:jw (λy=>decide (y=k')) B=[]:=np.2 zw;rw[eA,eB];rcases hM with rfl|⟨m,rfl,hm⟩
  ·rfl
  ·unfold jw;grind
 by_cases e:k'=k
 ·subst e;rw[ah rfl];obtain⟨A,M,B,rfl,hA,hM,hB⟩:=pd k' ps h;rw[uA hA hM hB];exact vx (M:=[⟨k',v⟩]) hA zu hB
 ·rw[aj e];obtain⟨A,M,B,rfl,hA,hM,hB⟩:=pd k ps h;have hp:qu (dN k v (A++(M++B))):=by
   rw[uA hA hM hB];obtain⟨s1,s2,s3⟩:=fS.1 h;obtain⟨_,s4,_⟩:=fS.1 s2;refine fS.2 ⟨s1,lM.2 ⟨hB,s4⟩,λa ha b hb=>?_⟩;rcases cV.1 hb with rfl|hb
   ·exact hA a ha
   ·exact vd (hA a ha) (hB b hb)
  rw[hs _ hp,hs _ h,rU h,aj zw]
theorem jA(h:qu ps):qu (dN k v ps):=by
 obtain⟨A,M,B,rfl,hA,hM,hB⟩:=pd k ps h;rw[uA hA hM hB];obtain⟨s1,s2,s3⟩:=fS.1 h;obtain⟨_,s4,_⟩:=fS.1 s2;refine fS.2 ⟨s1,lM.2 ⟨hB,s4⟩,λa ha b hb=>?_⟩;rcases cV.1 hb with rfl|hb
 ·exact hA a ha
 ·exact vd (hA a ha) (hB b hb)
theorem Yp(h:qu ps):qu (Ld k ps):=by
 have:(Ld k ps).Sublist ps:=by unfold Ld;have h1:(ps.drop (aR ps k+1)).Sublist (ps.drop (aR ps k)):=zw;have h2:=List.Sublist.append_left h1 (ps.take (aR ps k));rwa [di]at h2
 exact List.Pairwise.sublist this h
theorem aeq(h:∀p∈ps,p.key<k):dN k v ps=ps++ [⟨k,v⟩]:=by
 have:=uA (v:=v) (M:=[]) (B:=[]) h zu zu
 grind
end Pl
namespace Pl
variable (nm:List UInt8) (v:Vl) (ps:List Pr) (c k n i:Nat) (rest old:List UInt8)
structure Tb where
 name:List UInt8
 aZ:List Cl
 lost:Nat
structure Bs where
 ps:List Pr
 tb:Option Tb
 count:Nat
def auA:List UInt8:=if v.ty=1 then be 8 (v.n+9223372036854775808)else v.s
def keyOf(nm rest:List UInt8):Key:=UInt8.ofNat c::(nm++(if c=99 then[]else[0])++rest)
def aum:Key:=UInt8.ofNat c::(be 4 n++rest)
def kC:Key:=keyOf 99 nm []
def kR:Key:=keyOf 114 nm (auA v)
def kH:Key:=keyOf 104 nm (be 4 i)
def kP:Key:=aum 112 n [UInt8.ofNat i]
def kE:Key:=aum 101 n []
def kB:Key:=aum 98 n []
def kN:Key:=[110]
def aur(t:Tb):List UInt8:=be 4 t.lost++ku t.aZ
def auq(row:List Vl):List UInt8:=be 4 n++l6 row
def auz:List UInt8:=(old.take 4++be 4 n)++old.drop 4
def auw(b:Bs)(t:Tb)(old:List UInt8):Bs:=
 {b with ps:=dN (kC t.name) (aur {t with lost:=t.lost+1}) (dN (kH t.name t.lost) (auz (b.count+1) old) b.ps),tb:=some {t with lost:=t.lost+1}}
def aus(t:Tb)(o:jb):Key:=kR t.name (o.row.headD ⟨1,0,[]⟩)
def aul(b:Bs)(o:jb):Nat×Bs:=
 match b.tb with
 |none=>(0,{b with ps:=dN (kC o.table) (aur ⟨o.table,o.aZ,0⟩) b.ps,tb:=some ⟨o.table,o.aZ,0⟩})
 |some t=>
  match dI (aus t o) b.ps with
  |none=>if o.kind=2 then(0,{b with ps:=dN (aus t o) (auq (b.count+1) o.row) b.ps})else(8,b)
  |some old=>
   if o.kind=2 then(17,b)
   else if o.kind=4 then(0,{auw b t old with ps:=Ld (aus t o) (auw b t old).ps})
   else(0,{auw b t old with ps:=dN (aus t o) (auq (b.count+1) o.row) (auw b t old).ps})
def auk(n:Nat):Nat->Nat->List UInt8->List Pr->List Pr
 |0,_,_,ps=>ps
 |f+1,i,l,ps=>if l=[]then ps else auk n f (i+1) (l.drop 100) (dN (kP n i) (l.take 100) ps)
def auu:List UInt8:=(dI (kE n) ps).getD []
def auy:List UInt8:=(dI (kB k) ps).getD []
def aun:Nat:=if k=0 then 0 else iZ (auy ps k)
def aut:List (List UInt8):=[auu ps (3*(k-1)+1),auu ps (3*(k-1)+2),auu ps (3*(k-1)+3)]
def auo:List UInt8:=header k (aun ps (k-1)) (root (aut ps k))
def auv(x:fh)(ps:List Pr):List Pr:=
 let p1:=dN (kE n) (dK n x) (auk n 100 0 (bj x) ps)
 dN kN (be 4 n) (if n%3=0 then dN (kB (n/3)) (auo p1 (n/3)) p1 else p1)
def aup(b:Bs)(x:fh):Bs:={b with ps:=auv (b.count+1) x b.ps,count:=b.count+1}
end Pl
variable {w w':World} {l:List UInt8} {e:Ending} {n:Nat} {t:TypeId}
variable (c:Nat) (P:Nat->Prop)
theorem EL{o:Pl.jb}(h:Pl.p8 o):(Pl.fp o).length<=5000:=by
 obtain⟨hk,ht,CC,s9,zV,Ex,h4⟩:=p8.b h;have h1:=xJ (f:=Pl.rO) (m:=257) o.aZ (λx hx=>QQ zw);have h2:=xJ (f:=Pl.nI) (m:=257) o.row (λx hx=>Qx zw);unfold Pl.fp Pl.short;simp only[bE,ax];split
 ·unfold Pl.ku
  grind
 ·split
  ·omega
  ·unfold Pl.l6
   grind
def aax(w:World)(ls:List (List UInt8))(e:Ending)(w':World):Prop:=∃v,e= .returned v/\BL w' w.heap.size v ls/\Below w.heap.size w w'
theorem yF(c:List Value)(t:Pl.fh)(w:World)(hR:vY w P c t)(hP:∀b,P b->b<w.heap.size)(gP:∀o∈t.ops,Pl.p8 o)(hl:t.ops.length<=256):
 bG 130 #[.agg c.toArray] w (aax w (t.ops.map Pl.fp)):=by
 obtain⟨i0,yW,nQ,kK,mY⟩:=bV Tryz.oI;obtain⟨A,aB,cs,rfl,fo,hs,kD,hA⟩:=hR;obtain⟨time,ops⟩:=t;dsimp only at fo kD gP hl|-
 obtain⟨n,hn⟩:=ze ops.length;rw[hn]at fo hl|-
 obtain⟨gb,wb,pO,p9,dM,BB⟩:=zE w 147 [.int .i64 (sig time),.slice A n aB];obtain⟨c0,c1,_,_⟩:=aO BB;obtain⟨Ww,HI⟩:=dz gP (sS yW nQ kK mY);clear gP BB yW nQ kK mY;go_enter Tryz.func130,Tryz.ntmps130;go_wp2_with fail
 go_loopw [3,9] (λu i wr=>∃k:Nat,k<=n/\i= .int .i64 (k:Int)/\Hid (BL wr w.heap.size u ((ops.take k).map Pl.fp))/\Hid (Below w.heap.size w wr)) (λ_ i _=>n-(intOf i).toNat)
 case atStart=>exact⟨0,aM _,rfl,OL.nil _ _,dM⟩
 case round=>
  obtain⟨k,hk,rfl,HO,HB⟩:=hrel;by_cases pX:k<n
  ·have q1:(k:Int)<(n:Int):=zo;obtain⟨o,hc⟩:∃c,ops[k]?=some c:=⟨_,aF (by rw[hn];exact pX)⟩;obtain⟨c,hor,_,pH⟩:=kD.dm hc;have gP:=Ww.out o (bO hc);have agR:=zi (hor.only (ag.ae HB (λ_=>False)) (λ_ _ h=>h));obtain⟨Ac,cc,Ar,cr,rfl,_⟩:=hor;have mM:=hs.aa HB;obtain⟨b,off,rfl,g0⟩:=mM.dm _ _ (pH 0 zo);have g1:=mM.cell _ _ (pH 1 zo);have g2:=mM.cell _ _ (pH 2 zo);have g3:=mM.cell _ _ (pH 3 zo);rw[<-ew]at g1 g2 g3;rw[cI]at g0;obtain⟨wv,hwv,Rq⟩:=zF wr (.cells #[.int .i64 (o.kind:Nat),.string (ar o.table),.slice Ac o.aZ.length cc,.slice Ar o.row.length cr] 216);have BV:ay wv wr.heap.size 216 [.int .i64 (o.kind:Nat),.string (ar o.table),.slice Ac o.aZ.length cc,.slice Ar o.row.length cr]:=by rw[<-hwv];exact ay.new wr 216 _
   obtain⟨k0,k1,k2,k3,_⟩:=eh BV;obtain⟨hBv,hOv⟩:=dz (HB.trans (Rq.mono HB.size)) (HO.aa um.fr Rq);obtain⟨HT,bU⟩:=dz (WQ P _ o wv (agR.only (ag.ae Rq (λ_=>False)) (λ_ _ h=>h)) (λb hb=>aK (hP b hb) hBv.size) gP) (EL gP);clear pH gP mM Rq;clear BV;go_wp2_with fail;refine HT.mono ?_;rintro e w3 ⟨A3,n3,mL,rfl,OM⟩;have bg:=OM.2.2.2.2;obtain⟨SL,O3,B3⟩:=kt (NB.slR OM (zA bU.out)) (hOv.aa um.fr bg) (hBv.trans (bg.mono hBv.size));obtain⟨W3,J5,cj⟩:=zF w3 (.cells #[.slice A3 n3 mL] 29);have S4:Hid (Src W3 (some ⟨w3.heap.size,0,none⟩) [.slice A3 n3 mL]):=Src.dE (t:=29) (by rw[<-J5];exact ay.new w3 29 _);obtain⟨O4,B4⟩:=dz (O3.aa um.fr cj) (B3.trans (cj.mono B3.size));have R4:Hid (um W3 (λb=>w.heap.size<=b/\b<W3.heap.size/\u3.ownBlock≠some b) [.slice A3 n3 mL] (Pl.fp o)):=
    um.fr _ _ _ _ _ _ _ SL (ag.ae cj (λ_=>False)) (λ_ _ h=>h) (λb hb=>⟨ao hBv.size hb.1,aK hb.2 cj.size,λe=>by have:=(hOv.lt b e).2;omega⟩)
   have HLN:Hid (((ops.take k).map Pl.fp).length<=4294967296):=by rw[Hid,eT,aP];omega
   clear OM bg cj;go_wp2_with (first
    |(at_builtin
      refine oW (v:=u3) um.fr rfl (.tmp 13) (.tmp 16) 57 rfl Tryz.underlying57 HI.1 HI.2.1 HI.2.2.1 HI.2.2.2 rfl zj rfl O4 (some ⟨w3.heap.size,0,none⟩) 1 [.slice A3 n3 mL] (Pl.fp o) rfl rfl S4 (by simp;rfl) R4 HLN zj B4.size ?_;intro v5 w5 o5 m5;have O5:Hid (BL w5 w.heap.size v5 ((ops.take (k+1)).map Pl.fp)):=by rw[Hid,eK,hc,gH];exact o5
      have B5:Hid (Below w.heap.size w w5):=B4.trans (m5.only.cW B4.size (λb hb e=>by have:=(O4.lt b e).1;omega)))
    |fail)
   exact⟨⟨k+1,zo,by go_num,O5,B5⟩,by simp[intOf];omega⟩
  ·obtain rfl:k=n:=zo;have kJ:Hid (BL wr w.heap.size u3 (ops.map Pl.fp)):=by have:=HO.out;rw[dx (by rw[hn];exact ai _)]at this;exact this
   clear HO;go_wp2_with fail;go_ret;exact⟨_,rfl,kJ,HB⟩
theorem cG{B:Nat}(h:Below B w.drew w'):Below B w w':=⟨h.os,h.tape,h.output,h.size,h.block⟩
theorem NB.from{w0:World}(h:NB w l e w')(hb:dP w0 w):NB w0 l e w':=by obtain⟨A,n,aB,h1,h2,h3,h4,h5,h6⟩:=h;exact⟨A,n,aB,h1,h2,h3,h4,λp hp=>⟨ao hb.size zw,zw⟩,hb.trans (h6.mono hb.size)⟩
theorem NB.YW(hl:l.length=n)(h:∃A' cap',e= .returned (.slice A' n cap')/\aw w' A' l/\dP w w'/\n<=cap'/\∀p,A'=some p->w.heap.size<=p.block/\p.block<w'.heap.size):NB w l e w':=by obtain⟨A,aB,h1,h2,h3,h4,h5⟩:=h;exact⟨A,n,aB,h1,hl,h4,h2,h5,h3⟩
theorem My{t:Pl.fh}(h:Pl.nz t):t.time<18446744073709551616:=by have e:(256:Nat)^8=18446744073709551616:=zj;have:=h.1;omega
theorem FB(n:Nat)(c:List Value)(t:Pl.fh)(w:World)(hR:vY w P c t)(hP:∀b,P b->b<w.heap.size)(gP:Pl.nz t)(hn:n<4294967296):
 bG 224 #[.int .i64 (n:Nat),.agg c.toArray] w (NB w (Pl.dK n t)):=by
 have hti:=My gP;have hl:=gP.2.1;have ww:=Hz hti;obtain⟨A,aB,cs,rfl,fo,hs,kD,hA⟩:=id hR;obtain⟨m,hm⟩:=ze t.ops.length;rw[hm]at fo hl hR|-
 obtain⟨gb,wb,pO,p9,dM,BB⟩:=zE w 147 [.int .i64 (sig t.time),.slice A m aB];obtain⟨c0,c1,_,_⟩:=aO BB;have HT:=zi (yF P [.int .i64 (sig t.time),.slice A m aB] t wb.drew (hR.only (ag.ae dM.drew (λ_=>False)) (λ_ _ h=>h)) (λb hb=>aK (hP b hb) dM.size) gP.2.2 zo);clear hR hP gP hs kD hA;go_enter Tryz.func224,Tryz.ntmps224;go_wp2_with fail
 go_region_held3 (λW:World=>W.cell? ⟨gb,0,none⟩=some (.int .i64 (sig t.time))/\W.cell? ⟨gb,1,none⟩=some (.slice A m aB)) (first|exact⟨c0,c1⟩|exact S1|exact S2|exact S3) (first
  |(go_at_call 130
    refine HT.mono ?_;rintro e w1 ⟨v1,rfl,o1,b1⟩;obtain⟨A1,yL,hv,rX,aoP⟩:=o1.bb;rw[eT,hm]at hv;subst hv;obtain⟨B1,K1⟩:=dz (dM.trans ((cG b1).mono dM.size)) (BB.aa (cG b1) BB.lt);have S1:=zi (And.intro (K1.cell 0) (K1.cell 1));have R1:=DR m (t.ops.map Pl.fp) A1 yL w1 (by rw[eT,hm];exact ai _) aoP rX (by rw[eT,hm];omega);rw[eT,hm]at R1;have R1:=zi R1;clear o1 b1 rX aoP)
  |(go_at_call 250
    refine R1.mono ?_;rintro e w2 ⟨rfl,b2⟩;obtain⟨B2,K2⟩:=dz (B1.trans (b2.mono B1.size)) (K1.aa b2 K1.lt);have S2:=zi (And.intro (K2.cell 0) (K2.cell 1));clear b2)
  |(go_at_call 141
    refine(Vk n t.time m (Pl.root (t.ops.map Pl.fp)) w2 hn hti zo (mH (Pl.kx _) zj)).mono ?_;intro e w3 h3;obtain⟨_,_,_,_,b3,_⟩:=id h3;have K3:=zi (K2.aa b3 K2.lt);have hq:=(NB.YW (l:=Pl.entry n (Pl.be 8 t.time) m (Pl.root (t.ops.map Pl.fp))) (by simp[Pl.entry,Pl.aG]) h3).from B2;rw[show Pl.entry n (Pl.be 8 t.time) m (Pl.root (t.ops.map Pl.fp))=Pl.dK n t by unfold Pl.dK Pl.eU;rw[hm]]at hq;clear h3;obtain⟨A3,n3,mL,rfl,hq⟩:=hq;obtain⟨N3,S3⟩:=dz hq (And.intro (K3.cell 0) (K3.cell 1));clear hq)
  |fail)
 go_wp2_with fail;go_ret;exact⟨_,_,_,rfl,N3⟩
theorem kV{g:Nat}(h:ay w g t (hc n)):w.cell? ⟨g,0,none⟩=some (.int .u8 ((n:Int)/16777216))/\w.cell? ⟨g,1,none⟩=some (.int .u8 ((n:Int)/65536%256))/\
 w.cell? ⟨g,2,none⟩=some (.int .u8 ((n:Int)/256%256))/\w.cell? ⟨g,3,none⟩=some (.int .u8 ((n:Int)%256)):=⟨h.cell 0,h.cell 1,h.cell 2,h.cell 3⟩
theorem DK(b h:Nat)(ls:List (List UInt8))(A:Option Addr)(aB:Nat)(w:World)(hb:b<4294967296)(hh:h<4294967296)(Pd:BB w A ls)(hc0:ls.length<=aB)(hl:ls.length<=1000):
 bG 226 #[.int .i64 (b:Nat),bM h,.slice A ls.length aB] w (NB w (Pl.header b h (Pl.root ls))):=by
 obtain⟨wb,p9⟩:=ze (w.alloc (.cells (hc h).toArray 80));obtain⟨gb,pO⟩:=ze w.heap.size;have BB':ay wb gb 80 (hc h):=by rw[<-p9,<-pO];exact ay.new w 80 _
 have dM:=zb p9;obtain⟨c0,c1,c2,c3⟩:=kV BB';have R1:=zi (DR ls.length ls A aB wb.drew (ai _) (Pd.bQ dM.drew) hc0 zo);unfold hc at p9;clear Pd;unfold bM;go_enter Tryz.func226,Tryz.ntmps226;go_wp2_with fail
 go_region_held3 (λW:World=>W.cell? ⟨gb,0,none⟩=some (.int .u8 ((h:Int)/16777216))/\W.cell? ⟨gb,1,none⟩=some (.int .u8 ((h:Int)/65536%256))/\W.cell? ⟨gb,2,none⟩=some (.int .u8 ((h:Int)/256%256))/\W.cell? ⟨gb,3,none⟩=some (.int .u8 ((h:Int)%256)))
  (first|exact⟨c0,c1,c2,c3⟩|exact kV K2|exact kV K3) (first
  |(go_at_call 250
    refine R1.mono ?_;rintro e w2 ⟨rfl,b2⟩;obtain⟨B2,K2⟩:=dz (dM.trans ((cG b2).mono dM.size)) (BB'.aa (cG b2) BB'.lt);clear b2)
  |(go_at_call 142
    refine(Su b h (Pl.root ls) w2 hb hh (mH (Pl.kx _) zj)).mono ?_;intro e w3 h3;obtain⟨_,_,_,_,b3,_⟩:=id h3;have K3:=zi (K2.aa b3 K2.lt);have hq:=(NB.YW (Pl.eZ _ _ _) h3).from B2;clear h3;obtain⟨A3,n3,mL,rfl,hq⟩:=hq;have N3:=zi hq;clear hq b3)
  |fail)
 go_wp2_with fail;go_ret;exact⟨_,_,_,rfl,N3⟩
theorem ij(w:World)(o:Obj):dP w (w.alloc o):=(ak _ _).alloc zo _
def NT(w:World)(l:List UInt8)(e:Ending)(w':World):Prop:=
 ∃A n aB,e= .returned (.slice A n aB)/\l.length=n/\n<=aB/\dn w' A (bv l) 5/\(∀p,A=some p->w.heap.size<=p.block/\p.block<w'.heap.size)/\Below w.heap.size w w'
theorem dn.bytes{w:World}{A:Option Addr}{l:List UInt8}(h:dn w A (bv l) 5):aw w A l:=h.1.bytes
theorem dn.bQ{A:Option Addr}{cs:List Value}(h:dn w A cs t)(hb:dP w w'):dn w' A cs t:=
 ⟨h.1.aa hb,λp hp=>by
   obtain⟨GV,fz,h2⟩:=h.2 p hp;exact⟨GV,fz,(hb.block _ zw).trans h2⟩⟩
theorem Ob.nt{aq:Nat}{v:Value}(h:Ob w' aq v l)(hb:dP w w')(hl:w.heap.size<=aq):NT w l (.returned v) w':=by obtain⟨A,aB,rfl,h1,h2,h3⟩:=bJ h;refine⟨A,_,aB,rfl,rfl,h1,⟨h2,λp hp=>dc h zw⟩,λp hp=>?_,hb⟩;have:=h.lt _ (h3 p hp);omega
theorem afr(h:n<9223372036854775808):n^^^9223372036854775808=n+9223372036854775808:=by
 refine Nat.eq_of_testBit_eq λi=>?_;rw[Nat.testBit_xor,show(9223372036854775808:Nat)=2^63 from rfl,Nat.testBit_two_pow];by_cases hi:i=63
 ·grind
 ·by_cases hl:i<63
  ·rw[Nat.add_comm,Nat.testBit_two_pow_add_gt hl]
   grind
  ·have h1:n.testBit i=false:=Ay (aK h (by rw[show(9223372036854775808:Nat)=2^63 from rfl];exact jG zj zo));have h2:(n+2^63).testBit i=false:=Ay (aK (show n+2^63<2^64 by omega) (jG zj zo))
   grind
theorem Jt(nm rest:List UInt8)(A:Option Addr)(m aB:Nat)(w:World)(hc:c<256)(hn:nm.length<=255)(hr:rest.length=m)(hm:m<=255)(hb:aw w A rest):
 bG 198 #[.int .u8 (c:Nat),.string (ar nm),.slice A m aB] w (NT w (Pl.keyOf c nm rest)):=by
 have O1:=zi (Ob.lit w c w.heap.size hc (ai _));obtain⟨W1,tC⟩:=ze (w.alloc (.cells #[.int .u8 (c:Int)] 5));have B1:=zi (show Below w.heap.size w W1 by rw[<-tC];exact za _ _);rw[tC]at O1;obtain⟨HR,HB,HN,HM⟩:=yx hr hb hn hm;have S1:Hid (w.heap.size<=W1.heap.size):=B1.size;clear hr hb hn hm;by_cases h99:c=99
 ·have q1:((c:Int)==99)=true:=by rw[h99];rfl
  have HK:Hid (Pl.keyOf c nm rest=([UInt8.ofNat c]++nm)++rest):=by rw[Hid];unfold Pl.keyOf;rw[ah h99];simp
  clear h99;go_enter Tryz.func198,Tryz.ntmps198;go_wp2_with (first
   |(at_builtin
     refine Ce rfl (.tmp 9) (.tmp 10) rfl rfl O1.out nm rfl (by have:=HN.out;simp;omega) S1.out ?_;intro v2 w2 o2 m2;have b2:=m2.gV O1.out S1.out;obtain⟨o2,m2⟩:=dz o2 m2;have b2:=zi (B1.out.trans b2))
   |(at_builtin
     refine ic rfl (.tmp 17) (.tmp 18) rfl rfl o2.out A m aB rest rfl HR.out (HB.out.bQ b2.out).src (by have:=HN.out;have:=HM.out;simp;omega) b2.out.size ?_;intro v3 w3 o3 m3;have b3:=zi (b2.out.trans (m3.gV o2.out b2.out.size));have o3:=zi o3)
   |fail)
  go_ret;rw[HK.out];exact o3.nt b3 (ai _)
 ·have q1:((c:Int)==99)=false:=b9.2 zo;have HK:Hid (Pl.keyOf c nm rest=(([UInt8.ofNat c]++nm)++ [UInt8.ofNat 0])++rest):=by rw[Hid];unfold Pl.keyOf;rw[aj h99];simp
  clear h99;go_enter Tryz.func198,Tryz.ntmps198;go_wp2_with (first
   |(at_builtin
     refine Ce rfl (.tmp 9) (.tmp 10) rfl rfl O1.out nm rfl (by have:=HN.out;simp;omega) S1.out ?_;intro v2 w2 o2 m2;have b2:=m2.gV O1.out S1.out;obtain⟨z1,z2,z3⟩:=kt (o2.alloc (.cells #[.int .u8 ((0:Nat):Int)] 5)) (lH w2 0 zj) (iV (B1.out.trans b2).size (.cells #[.int .u8 ((0:Nat):Int)] 5));have b2:=zi ((B1.out.trans b2).trans ((ak w.heap.size w2).alloc (B1.out.trans b2).size (.cells #[.int .u8 ((0:Nat):Int)] 5))))
   |(at_builtin
     refine ic rfl (.tmp 14) (.tmp 15) rfl rfl z1.out (some ⟨w2.heap.size,0,none⟩) 1 1 [UInt8.ofNat 0] rfl rfl z2.out (by have:=HN.out;simp;omega) z3.out ?_;intro v4 w4 o4 m4;have b4:=zi (b2.out.trans (m4.gV z1.out z3.out));have o4:=zi o4)
   |(at_builtin
     refine ic rfl (.tmp 17) (.tmp 18) rfl rfl o4.out A m aB rest rfl HR.out (HB.out.bQ b4.out).src (by have:=HN.out;have:=HM.out;simp;omega) b4.out.size ?_;intro v3 w3 o3 m3;have b3:=zi (b4.out.trans (m3.gV o4.out b4.out.size));have o3:=zi o3)
   |fail)
  go_ret;rw[HK.out];exact o3.nt b3 (ai _)
theorem lI(n:Nat)(rest:List UInt8)(A:Option Addr)(m aB:Nat)(w:World)(hc:c<256)(hn:n<9223372036854775808)(hr:rest.length=m)(hm:m<=255)(hb:aw w A rest):
 bG 120 #[.int .u8 (c:Nat),.int .i64 (n:Nat),.slice A m aB] w (NT w (Pl.aum c n rest)):=by
 have O1:=Ob.lit w c w.heap.size hc (ai _);obtain⟨W1,tC⟩:=ze (w.alloc (.cells #[.int .u8 (c:Int)] 5));have B1:=show Below w.heap.size w W1 by rw[<-tC];exact za _ _
 rw[tC]at O1;have ww:IntKind.u64.wrap (n:Int)=n:=by rw[lE];omega
 have HP:=sQ _ [UInt8.ofNat c] n 4 w.heap.size W1 O1 B1.size zo zj zj zu;have HK:(Pl.aum c n rest=([UInt8.ofNat c]++Pl.be 4 n)++rest):=by unfold Pl.aum;simp
 go_enter Tryz.func120,Tryz.ntmps120;go_wp2_with fail;refine HP.mono ?_;rintro e w2 ⟨v2,rfl,o2,m2⟩;have b2:=B1.trans (m2.gV O1 B1.size);have o2:=o2;go_wp2_with (first
  |(at_builtin
    refine ic rfl (.tmp 11) (.tmp 12) rfl rfl o2 A m aB rest rfl hr (hb.bQ b2).src (by have:=hm;simp[Pl.aG];omega) b2.size ?_;intro v3 w3 o3 m3;have b3:=b2.trans (m3.gV o2 b2.size);have o3:=o3)
  |fail)
 go_ret;rw[HK];exact o3.nt b3 (ai _)
theorem PO(n:Nat)(w:World)(hn:n<9223372036854775808):
 bG 261 #[.agg #[.int .i64 1,.int .i64 (n:Nat),.string ⟨#[]⟩]] w (NT w (Pl.be 8 (n+9223372036854775808))):=by
 have ww:IntKind.u64.wrap (n:Int)=n:=by rw[lE];omega
 have wx:bits .xor .u64 (n:Int) 9223372036854775808=((n+9223372036854775808:Nat):Int):=by rw[show(9223372036854775808:Int)=((9223372036854775808:Nat):Int)from rfl,bits_xor_u64_nat n 9223372036854775808 zo zj,afr hn]
 obtain⟨wb,p9⟩:=ze (w.alloc (.cells #[.int .i64 1,.int .i64 (n:Nat),.string ⟨#[]⟩] 88));have BB:ay wb w.heap.size 88 [.int .i64 1,.int .i64 (n:Nat),.string ⟨#[]⟩]:=by rw[<-p9];exact ay.new w 88 _
 have hb:=zb p9;obtain⟨c0,c1,c2,_,_,_⟩:=dD BB;obtain⟨x,hx⟩:=ze (n+9223372036854775808);rw[hx]at wx|-
 have O1:=Ob.nil wb wb.heap.size;have HP:=sQ _ [] x 8 wb.heap.size wb O1 (ai _) zo zj zj zu;go_enter Tryz.func261,Tryz.ntmps261;go_wp2_with fail;refine HP.mono ?_;rintro e w2 ⟨v2,rfl,o2,m2⟩;have b2:=hb.trans ((m2.gV O1 (ai _)).mono hb.size);have o2:=o2;go_wp2_with fail;go_ret;exact o2.nt b2 hb.size
end Go.Proofs.YtbhpofdafhahgaaGreatDoor
