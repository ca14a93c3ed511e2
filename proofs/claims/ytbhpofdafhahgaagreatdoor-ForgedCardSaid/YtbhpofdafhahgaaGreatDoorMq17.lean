/- Part 17: PhF PhG PhH PhI PhJ PhK PhL PhM PhN PhO PhP PhQ PhR PhS PhT PhU PhV PhW PhX PiB PiC PiD PiE FrmA PiF PiG PiH PiI. -/
import Derived.Test.YtbhpofdafhahgaaGreatDoorMq10
import Derived.Test.YtbhpofdafhahgaaGreatDoorMq16
set_option linter.all false
set_option maxHeartbeats 8000000
set_option maxRecDepth 100000
namespace Go.Proofs.YtbhpofdafhahgaaGreatDoor
open Go.RowKit Go.Maps Go.WideMaps
variable [Inhabited eH]
def kM(F:Nat->Prop)(w:World)(ts:List TypeId):Prop:=∀k t,jh w k t->t∉ts->¬F k
theorem bR.spare{F:Nat->Prop}{w:World}{ts:List TypeId}(h:bR F w ts):kM F w ts:=λk t ht hn hf=>by obtain⟨t',h1,h2⟩:=h k hf;exact hn (ht.dv h2▸h1)
theorem eW.spare{w:World}{b k:Nat}{js:List Nat}(h:eW w b k js):kM (·=b) w []:=λx t ht _ hx=>by
 subst hx;obtain⟨cs,fz,hb⟩:=ht;obtain⟨D,⟨es,clock,h1,h2⟩,h3⟩:=h
 grind
section
variable {F:Nat->Prop} {w w':World} {ts:List TypeId}
variable {k:Nat} {t:TypeId}
theorem kM.mono{ts':List TypeId}(h:kM F w ts)(hs:∀t∈ts,t∈ts'):kM F w ts':=λk t ht hn=>h k t ht (λhm=>zw)
theorem ay.sp{cs:List Value}(hb:ay w k t cs)(ho:ag F w w')(hs:kM F w ts)(ht:t∉ts):ay w' k t cs:=ho.aC hb (hs k t hb.dV ht)
theorem jh.sp(h:jh w k t)(ho:ag F w w')(hs:kM F w ts)(ht:t∉ts):jh w' k t:=by have hn:=hs k t h ht;obtain⟨cs,fz,hb⟩:=h;exact⟨cs,fz,(ho.block k zw hn).trans hb⟩
theorem dn.sp{A:Option Addr}{cs:List Value}{t:TypeId}(h:dn w A cs t)(ho:ag F w w')(hs:kM F w ts)(ht:t∉ts):dn w' A cs t:=by
 obtain⟨h1,h2⟩:=h;refine⟨?_,λp hp=>(h2 p hp).sp ho hs ht⟩;rcases h1 with h1|⟨b,off,rfl,h1⟩
 ·exact .inl h1
 ·exact .inr ⟨b,off,rfl,λj u hu=>ho.cell zw (hs _ _ zw ht)⟩
theorem iq.sp{v:Value}{pg:Pg}(h:iq w v pg)(ho:ag F w w')(hs:kM F w ts)(ht:∀t∈er,t∉ts):iq w' v pg:=by
 cases pg with
 |leaf ps=>obtain⟨b,rfl,A,aB,hb,hc,mM⟩:=h;exact⟨b,rfl,A,aB,hb.sp ho hs (ht _ (by simp[er])),hc,mM.sp ho hs (ht _ (by simp[er]))⟩
 |inner ks rs=>obtain⟨b,rfl,A,aB,A',cap',hb,hc,hc',h1,h2⟩:=h;exact⟨b,rfl,A,aB,A',cap',hb.sp ho hs (ht _ (by simp[er])),hc,hc',h1.sp ho hs (ht _ (by simp[er])),h2.sp ho hs (ht _ (by simp[er]))⟩
theorem Inv.sp{G:Gh}{D:Nat->Option (List UInt8)}{n:Nat}{S:List Nat}(h:Inv w G D n S)(ho:ag F w w')(hF:kM F w ts)(h1:265∉ts)(h2:∀t∈er,t∉ts):Inv w' G D n S:=by
 have pg:∀{v:Value} (k:Nat) (t:Pl.Tr k) (so:Option (Pl.ST k)),fN w G v k t so->fN w' G v k t so:=by
  intro v k t so hp;cases k with
  |zero=>exact iq.sp (pg:= .leaf t) hp ho hF h2
  |succ k=>
   obtain⟨rs,g1,g2,g3,g4⟩:=hp;exact⟨rs,g1.sp ho hF h2,g2,g3,λs hs i r a hr ha=>by
    obtain⟨pv,h5⟩:=g4 s hs i r a hr ha;exact⟨pv,h5.sp ho hF h1⟩⟩
 intro r k t hr;rcases h r k t hr with⟨v,g1,g2⟩|⟨s,v,g1,g2,g3,g4⟩
 ·exact .inl ⟨v,g1.sp ho hF h1,zw⟩
 ·exact .inr ⟨s,v,g1.sp ho hF h1,g2,g3,zw⟩
theorem aJ.sp{g:Nat}{v:Value}{d:Pl.Dk}{rd:Int}(h:aJ w g v d rd)(ho:ag F w w')(hF:kM F w ts)(h1:108∉ts)(h2:190∉ts):aJ w' g v d rd:=h.only ho λk hk=>by
 obtain⟨t,k1,k2⟩:=h.kinds k hk;simp only[cV,je,iU]at k1;rcases k1 with rfl|rfl
 ·exact hF _ _ k2 h1
 ·exact hF _ _ k2 h2
theorem TW.sp{E:fe}{rd:Int}{G:Gh}(h:TW E w rd G)(ho:ag F w w')(hF:kM F w ts)(h1:242∉ts)(h2:265∉ts)(h3:∀t∈er,t∉ts)(h4:108∉ts)(h5:190∉ts):TW E w' rd G:=
 ⟨h.tree.sp ho hF h1,h.gq.sp ho hF h4 h5,h.inv.sp ho hF h2 h3,h.aA,h.low,ao h.aq ho.size⟩
theorem eW.sp{b:Nat}{js:List Nat}(h:eW w b k js)(ho:ag F w w')(hb:¬F b):eW w' b k js:=h.heap (ho.block b h.lt hb)
end
variable {ts:List TypeId} {w w':World} {k a b first n q p lo pp:Nat} {t:TypeId} {cs:List Value} {v vD rv:Value} {F:Nat->Prop} {js:List Nat} {d:Pl.Dk} {rd:Int} {l:List Pl.Ch}
variable (j aq gT g seq dm ej:Nat) (cg:Array Value) (W:World)
def qw(ts:List TypeId)(w w':World):Prop:=∃F,ag F w w'/\kM F w ts
theorem qw.ae{ts:List TypeId}{w w':World}(h:dP w w'):qw ts w w':=⟨λ_=>False,ag.ae h _,λ_ _ _ _ h=>h⟩
theorem qw.trans{ts:List TypeId}{a b c:World}(h:qw ts a b)(k:qw ts b c):qw ts a c:=by
 obtain⟨F,h1,h2⟩:=h;obtain⟨F',k1,k2⟩:=k;refine⟨λx=>F x\/(x<a.heap.size/\F' x),(h1.mono zS).trans k1 zS,λx t ht hn hx=>?_⟩;have hf:=h2 x t ht hn;rcases hx with hx|⟨_,hx⟩
 ·grind
 ·exact k2 x t (ht.sp h1 h2 hn) hn hx
theorem qw.mono{ts ts':List TypeId}{w w':World}(h:qw ts w w')(hs:∀t∈ts,t∈ts'):qw ts' w w':=by obtain⟨F,h1,h2⟩:=h;exact⟨F,h1,h2.mono hs⟩
theorem qw.aC(h:qw ts w w')(hb:ay w k t cs)(ht:t∉ts):ay w' k t cs:=by obtain⟨F,h1,h2⟩:=h;exact hb.sp h1 h2 ht
theorem qw.pg(h:qw ts w w'){pg:Pg}(hp:iq w v pg)(ht:∀t∈er,t∉ts):iq w' v pg:=by obtain⟨F,h1,h2⟩:=h;exact hp.sp h1 h2 ht
theorem qw.eo(h:qw ts w w'){A:Option Addr}(hp:dn w A cs t)(ht:t∉ts):dn w' A cs t:=by obtain⟨F,h1,h2⟩:=h;exact hp.sp h1 h2 ht
theorem qw.size{ts:List TypeId}{w w':World}(h:qw ts w w'):w.heap.size<=w'.heap.size:=by obtain⟨F,h1,_⟩:=h;exact h1.size
theorem iu.sfr(h:iu w w'):qw [265,108] w w':=by obtain⟨F,h1,h2⟩:=h.only;exact⟨F,h1,h2.spare⟩
theorem qw.since{a b:World}(h:qw ts w a)(k:ag F a b)(hF:∀x,x<w.heap.size->¬F x):qw ts w b:=by
 obtain⟨F',h1,h2⟩:=h;exact⟨λx=>F' x\/(x<w.heap.size/\F x),(h1.mono zS).trans k zS,λx t ht hn hx=>by
  rcases hx with hx|⟨hl,hx⟩
  ·exact h2 x t ht hn hx
  grind⟩
theorem eW.step(hj:j<=100000)(h:eW w b k js)(hk:k<100000)(hc:js.length<=100000):
 ∃w',(Instr.mapUpdate 365 (.map (some b)) (.int .i64 (j:Int)) (.int .i64 ((js.count j:Nat)+1:Int))).run Tryz.prog w= .ok () w'/\eW w' b (k+1) (js++ [j])/\ag (·=b) w w':=by
 obtain⟨D,bI,h3,h4⟩:=h;have tZ:keyOf Tryz.prog 3 (.int .i64 (j:Int))=some (.int .i64 (j:Int)):=keyOf_int_mk Tryz.underlying3 (abW j hj);have aki:=bI.tidy Tryz.VT;have kj:js.count j<=100000:=zw;have hwf:(Lit.int .i64 ((js.count j:Nat)+1:Int)).wf=true:=by
  simp only[Lit.wf,IntKind.min,IntKind.max,IntKind.signed,IntKind.bits]
  first|(simp;omega)|omega
 obtain⟨w',hrun,amk,hg⟩:=bI.update Tryz.VT Tryz.underlying365 (by unfold maxLen;omega) tZ (plainElem_int Tryz.underlying3 hwf);refine⟨w',hrun,⟨_,amk,λx=>?_,λn hcnd=>?_,λx=>?_⟩,?_⟩
 ·by_cases hs:x=j
  ·subst hs;rw[atKey_put_same aki.isMap (show WideAt.IsKeyLit (.int .i64 (x:Int))from trivial),rq];simp
  ·rw[atKey_put_other zw,h3,rq];have:List.count x [j]=0:=zw
   grind
 ·rw[size_put aki,h4.2 j,h4.1 n zS,Pl.xF]
  grind
 ·by_cases hs:x=j
  ·subst hs;rw[has_put_same aki.isMap (show WideAt.IsKeyLit (.int .i64 (x:Int))from trivial)];simp
  ·rw[has_put_other zw,h4.2 x]
   grind
 ·exact⟨hg.os,hg.tape,hg.output,hg.size,λi hi hn=>hg.block i hi zS⟩
def uh(w w':World):Prop:=∀r a v,cX w r a v->∃v',cX w' r a v'/\(v'=v\/v= .nilIface)
theorem uh.trans{a b c:World}(h:uh a b)(k:uh b c):uh a c:=λr x v hr=>by
 obtain⟨v',h1,h2⟩:=h r x v hr;obtain⟨v2,k1,k2⟩:=k r x v' h1
 grind
def XD(w w':World):Prop:=qw [265,108] w w'/\uh w w'/\(∀(p:Addr) (s:Value),oC s=true->w.cell? p=some s->w'.cell? p=some s)/\ag Zn w w'
theorem XD.trans{a b c:World}(h:XD a b)(k:XD b c):XD a c:=⟨h.1.trans k.1,h.2.1.trans k.2.1,λp s hs hc=>k.2.2.1 p s hs (h.2.2.1 p s hs hc),h.2.2.2.aE k.2.2.2⟩
theorem iu.ufr(h:iu w w'):XD w w':=⟨h.sfr,h.refs,h.ev,h.low⟩
theorem XD.of_map(h:eW w b k js)(XM:Zn b)(ho:ag (·=b) w w'):XD w w':=
 ⟨⟨_,ho,h.spare.mono zu⟩,λr a v hr=>⟨v,hr.sp ho h.spare zu,.inl rfl⟩,λp s _ hc=>ho.cell hc (λe=>by
   obtain⟨D,⟨es,clock,h1,h2⟩,h3⟩:=h;unfold World.cell? at hc
   grind),ho.mono zS⟩
theorem XD.ae{w w':World}(h:dP w w'):XD w w':=(iu.ae h).ufr
def ug:List TypeId:=[265,108,190,3]
def Gk(w w':World):Prop:=(pz w->pz w')/\(GE w->GE w')/\ag Zn w w'
theorem Gk.trans{a b c:World}(h:Gk a b)(k:Gk b c):Gk a c:=⟨λx=>k.1 (h.1 x),λx=>k.2.1 (h.2.1 x),h.2.2.aE k.2.2⟩
theorem Gk.anA(h:∀(p:Addr) (s:Value),oC s=true->w.cell? p=some s->w'.cell? p=some s)(hl:ag Zn w w'):Gk w w':=
 ⟨λx=>⟨h _ _ rfl x.1,h _ _ rfl x.2.1,h _ _ rfl x.2.2⟩,λx=>h _ _ rfl x,hl⟩
theorem XD.gk(h:XD w w'):Gk w w':=Gk.anA h.2.2.1 h.2.2.2
theorem Gk.ae{w w':World}(h:dP w w'):Gk w w':=(XD.ae h).gk
theorem Gk.ofF(hF:∀k,F k->Zn k/\∃t c cs,ay w k t (c::cs)/\oC c=false)(ho:ag F w w'):Gk w w':=by
 have key:∀k s,w.cell? ⟨k,0,none⟩=some s->oC s=true->¬F k:=λk s h1 h2 hf=>by
  obtain⟨_,t,c,cs,hb,hc⟩:=hF k hf;have h0:w.cell? ⟨k,0,none⟩=some c:=hb.cell 0
  grind
 refine⟨λx=>?_,λx=>ho.cell x (key _ _ x rfl),ho.mono zS⟩;have nf:=key _ _ x.1 rfl;exact⟨ho.cell x.1 nf,ho.cell x.2.1 nf,ho.cell x.2.2 nf⟩
theorem Gk.of1{c:Value}(hb:ay w k t (c::cs))(hc:oC c=false)(fu:Zn k)(ho:ag (·=k) w w'):Gk w w':=
 Gk.ofF zw ho
theorem Gk.pw{g:Nat}(hd:aJ w g v d rd)(h0:0<d.aV.length)(fu:∀k,dF g v k->Zn k)(ho:ag (dF g v) w w'):Gk w w':=by
 obtain⟨wr,sy,pO⟩:=hd.aC;obtain⟨A,aB,hv,_⟩:=bJ hd.own;have jz:w.cell? ⟨g,0,none⟩=some v:=pO.cell 0;have hv0:oC v=false:=by rw[hv];rfl
 obtain⟨s,hs⟩:∃s,d.aV[0]?=some s:=zS;obtain⟨b,cp,e1,_,hc,_⟩:=hd.sec hs;rw[Nat.zero_mul]at hc;have key:∀k s,w.cell? ⟨k,0,none⟩=some s->oC s=true->k≠g:=zw;refine⟨λx=>?_,λx=>?_,ho.mono zS⟩
 ·have nf:¬dF g v 1:=by
   rintro(e|e)
   ·exact key _ _ x.1 rfl e
   ·exact x.mK hd h0 e
  exact⟨ho.cell x.1 nf,ho.cell x.2.1 nf,ho.cell x.2.2 nf⟩
 ·refine ho.cell x ?_;rintro(e|e)
  ·exact key _ _ x rfl e
  ·rw[e1]at e;have e2:b=0:=zw;subst e2;have h2:=Eq.trans (Eq.symm x) hc;cases h2
theorem vh{i j:Nat}{t:List UInt8}(fK:d.alive=true)(hi:i<d.aV.length):(d.change (.wr i t)).look j=if i=j then some (t++Pl.gO (256-t.length))else d.look j:=by unfold Pl.Dk.change;rw[ah fK];exact Pl.OG d.aV (d.tick).aW i j t hi
theorem ea(d:Pl.Dk)(c:Pl.Ch):(d.change c).aV.length=d.aV.length:=by
 unfold Pl.Dk.change;split
 ·show(c.on d.aV).length=_;cases c<;>simp[Pl.Ch.on]
 ·rfl
theorem Qm(args:Array Value)(W:World):(callFunc 257 args).run Tryz.prog W= .ok (.enter 257 args) W:=by simp[go_sem]
theorem dZ.dv{ks:List Pl.Key}{rs FP:List Nat}(h:dZ w b ks rs)(h':dZ w b ks FP):rs=FP:=by obtain⟨A,aB,A',cap',hb,_,_,_,hs⟩:=h;obtain⟨B,cp,B',cp',SG,_,_,_,TU⟩:=h';have h1:=(hb.cell 1).symm.trans (SG.cell 1);simp only[au,aL,uH]at h1;injection h1 with e1 e2 e3;subst e1;refine List.ext_getElem e2 (λi hi Pk=>?_);obtain⟨bk,off,e,g⟩:=hs.1.dm i _ (iX (aF hi));obtain⟨bk',Lb,e',g'⟩:=TU.1.dm i _ (iX (aF Pk));rw[e]at e';injection e' with e';injection e' with e4 e5;subst e4 e5;rw[g]at g';injection g' with g';unfold dJ at g';injection g' with g';injection g' with g';injection g'
theorem F3(v:Value)(d:Pl.Dk)(rd:Int)(first n:Nat)(w:World)(h:aJ w g v d rd)(h1:16<=n)(h2:first+n<=d.aV.length):
 bG 160 #[.pointer (some ⟨g,0,none⟩),.int .i64 (first:Nat),.int .i64 (n:Nat)] w λe w'=>e= .returned (.bool true)/\w=w':=by
 have hm:=h.pU;have H:=nw g v d rd w h;obtain⟨m,hm'⟩:=ze d.aV.length;rw[hm']at hm H h2;have e1:decide ((n:Int)>=16)=true:=aQ zo;have e2:decide ((first:Int)>=0)=true:=aQ zo;have e3:decide ((first:Int)<=(m:Int))=true:=aQ zo;have e4:decide ((n:Int)<=(m:Int)-(first:Int))=true:=aQ zo;have q1:(16:Int)<=(n:Int):=zo;have q2:(0:Int)<=(first:Int):=zo;have q3:(first:Int)<=(m:Int):=zo;have q4:(n:Int)<=(m:Int)-(first:Int):=zo;have hw:IntKind.i64.wrap ((m:Int)-(first:Int))=(m:Int)-(first:Int):=aY _ zo;go_enter Tryz.func160,Tryz.ntmps160;go_wp2_with fail;refine H.mono ?_;rintro e w' ⟨rfl,rfl⟩;go_wp2_with fail;refine H.mono ?_;rintro e w' ⟨rfl,rfl⟩;go_wp2_with fail;go_ret;exact⟨by first|rfl|simp[q4],rfl⟩
theorem eW.len{w:World}{b k:Nat}{js:List Nat}(h:eW w b k js)(n:Nat)(hn:∀j∈js,j<n)(ty:TypeId):(Builtin.len_ #[365] ty #[.map (some b)]).run Tryz.prog w= .ok (.int .i64 ((Pl.fc n js:Nat):Int)) w:=by obtain⟨D,bI,_,h4,_⟩:=h;rw[<-h4 n hn];exact bI.len Tryz.underlying365 ty
def jI:List UInt8:=84::(Pl.be 8 seq++Pl.be 4 dm++Pl.be 4 ej)
theorem yo.u{w w':World}(hp:∀v pg,iq w v pg->iq w' v pg)(hr:uh w w'):∀(h:Nat) (t:Pl.Tr h) (r f:Nat),yo w h t r f->yo w' h t r f
 |0,t,r,f,⟨a,v,h1,h2⟩=>by obtain⟨v',h3,_⟩:=hr r a v h1;exact⟨a,v',h3,h2⟩
 |h+1,t,r,f,⟨a,v,h1,h2⟩=>by
  obtain⟨v',h3,h4⟩:=hr r a v h1;refine⟨a,v',h3,?_⟩;rcases h2 with h2|⟨h2,rs,F,h5,h6,h7,h8⟩
  ·omega
  ·have hv:v'=v:=by
    rcases h4 with h4|h4
    ·exact h4
    ·subst h4;obtain⟨b,e,_⟩:=h5;cases e
   subst hv;exact .inr ⟨h2,rs,F,zw,h6,h7,λj x c hx hc=>yo.u hp hr h c x (F j) zw⟩
theorem mX(d:Pl.Dk)(j:Nat):(d.change .sy).look j=d.look j:=by
 unfold Pl.Dk.change;split
 ·exact Pl.Np d.aV (d.tick).aW j
 ·rfl
theorem ri(d:Pl.Dk)(i j:Nat)(t:List UInt8)(hij:i≠j):(d.change (.wr i t)).look j=d.look j:=by
 unfold Pl.Dk.change;split
 ·show Pl.Dk.look ⟨Pl.Ch.on (.wr i t) d.aV,_⟩ j=_;unfold Pl.Dk.look;simp only[Pl.Ch.on,BM,aj hij];simp
 ·rfl
theorem LY:(jI seq dm ej).length=17:=by simp[jI,Pl.aG]
def yh(E:fe)(w:World)(G:Gh)(js:List Nat):Prop:=
 (E.m.saved=none/\js=[]/\E.m.ej=0)\/∃rs hs ts ss v,E.m.saved=some rs/\G rs=some ⟨hs,ts⟩/\Pl.ix ⟨hs,ts⟩/\hs<=62/\cX w rs (Pl.top hs ss) v/\Pl.yJ E.D E.m.n hs ss ts/\js=Pl.fg hs ss/\E.m.ej=Pl.fc E.m.n js
def jc:List TypeId:=ug++ [242]
def DF(first:Nat)(js:List Nat)(l:List Pl.Ch):Prop:=∀c∈l,c= .sy\/∃j x,c= .wr (first+j) x/\2<=j/\j∉js
theorem DF.sy(h:DF first js l):DF first js (l++ [.sy]):=λc hc=>(eQ.1 hc).elim (h c) zS
theorem aez{d':Pl.Dk}(h:d.run l=(d',true))(c:Pl.Ch):d.run (l++ [c])=(d'.change c,d'.alive):=by rw[Pl.Dk.AQ,h];show d'.run [c]=_;rw[Pl.Dk.iW];cases d'.alive<;>simp[Pl.Dk.qb]
theorem DF.look{first:Nat}{js:List Nat}:∀{l:List Pl.Ch} {d d':Pl.Dk} {ok:Bool},DF first js l->d.run l=(d',ok)->∀j,(j<2\/j∈js)->d'.look (first+j)=d.look (first+j)
 | [],d,d',ok,_,hr,j,_=>by rw[Pl.Dk.qb]at hr;grind
 |c::l,d,d',ok,h,hr,j,hj=>by
  have hc:(d.change c).look (first+j)=d.look (first+j):=by
   rcases h c zu with rfl|⟨i,x,rfl,h1,h2⟩
   ·exact mX d _
   ·exact ri d _ _ x (λe=>by
     grind)
  rw[Pl.Dk.iW]at hr;by_cases fK:d.alive=true
  ·rw[ah fK]at hr;rw[DF.look (λc hc=>h c zw) hr j hj,hc]
  grind
theorem XB:∀(l:List Pl.Ch) (d:Pl.Dk),(d.run l).1.aV.length=d.aV.length
 | [],d=>rfl
 |c::l,d=>by
  rw[Pl.Dk.iW];split
  ·rw[XB l,ea]
  ·exact ea d c
theorem aex(h:d.aW<0)(l:List Pl.Ch):(d.run l).1.aW=d.aW:=by rw[Pl.adk h]
theorem fV(h:d.aW<0)(c:Pl.Ch):(d.change c).aW=d.aW:=by rw[Pl.Lk h]
def begun(d:Pl.Dk)(first:Nat):Pl.Dk:=((d.change (.wr (first+0) [])).change (.wr (first+1) [])).change .sy
def nH(vD:Value)(d:Pl.Dk)(rd:Int)(first n:Nat)(w w':World):Prop:=
 qw jc w w'/\Gk w w'/\∃(l:List Pl.Ch) (d1:Pl.Dk) (s:Pl.ST 0) (cO:Int),DF first [] l/\(begun d first).run (l++ [.sy])=(d1,true)/\Pl.yJ (λj=>d1.look (first+j)) n 0 s ([]:List Pl.Pr)/\
  aJ w' g vD ((d1.change (.wr (first+1) (jI 1 (Pl.top 0 s) (Pl.fc n (Pl.fg 0 s))))).change .sy) cO/\tF 100000 rd cO
def aal(r h:Nat)(t:Pl.Tr h):Gh:=λk=>if k=r then some ⟨h,t⟩else none
theorem JD:(callFunc 231 cg).run Tryz.prog W= .ok (.enter 231 cg) W:=by simp[go_sem]
theorem rY.Jx{e:Ending}(h:rY d.alive k e)(hl:d.aW<0):e= .returned (.tuple #[]):=by
 rcases h with⟨_,h⟩|⟨h,_⟩
 ·exact h
 ·rw[Pl.kU hl]at h;cases h
theorem nH.before{g:Nat}{w0:World}(h:nH g vD d rd first n w w')(hb:dP w0 w):nH g vD d rd first n w0 w':=
 ⟨(qw.ae hb).trans h.1,(Gk.ae hb).trans h.2.1,h.2.2⟩
theorem nH.only{g:Nat}{sL:World}(h:nH g vD d rd first n w w')(ho:ag F w' sL)(hk:bR F w' ts)(h1:108∉ts)(h2:190∉ts)(hF:∀x,x<w.heap.size->¬F x)(hg:Gk w' sL):nH g vD d rd first n w sL:=by obtain⟨k0,k1,l,d1,s,cO,k2,k3,k4,k5,k6⟩:=h;exact⟨k0.since ho hF,k1.trans hg,l,d1,s,cO,k2,k3,k4,k5.iC ho hk h1 h2,k6⟩
theorem aaP(q a p:Nat):(Pl.l5 (jI q a p)).headD 0=84:=rfl
theorem Q8(a p:Nat)(h:q<18446744073709551616):Pl.num (((Pl.l5 (jI q a p)).drop 1).take 8)=q:=by unfold Pl.l5 jI;rw[eu,jg,jD,cJ,cJ,ik (Pl.aG 8 q)];exact Pl.kq 8 q h
theorem ada(q:Nat)(p:Nat)(h:a<4294967296):Pl.num (((Pl.l5 (jI q a p)).drop 9).take 4)=a:=by unfold Pl.l5 jI;rw[eu,jg,cJ,cJ,ke (Pl.aG 8 q),ik (Pl.aG 4 a)];exact Pl.kq 4 a h
theorem Wl(q a:Nat)(h:p<4294967296):Pl.num (((Pl.l5 (jI q a p)).drop 13).take 4)=p:=by unfold Pl.l5 jI;rw[eu,jg,cJ,ke (by rw[ax,Pl.aG,Pl.aG]),ik (Pl.aG 4 p)];exact Pl.kq 4 p h
structure BQ(d:Pl.Dk)(first n seq a p:Nat):Prop where
 now:d.look (first+seq%2)=some (Pl.l5 (jI seq a p))
 old:∀s,d.look (first+(seq+1)%2)=some s->s.headD 0=84->Pl.num ((s.drop 1).take 8)<seq
 lo:1<=seq
 hi:seq<18446744073709551616
 a1:2<=a
 a2:a<n
 p1:1<=p
 p2:p<=n
def qj(first n:Nat)(rv:Value)(q p:Nat):List Value:=[.pointer (some ⟨g,0,none⟩),.int .i64 (first:Nat),.int .i64 (n:Nat),rv,.pointer none,.int .u64 (q:Nat),.int .i64 (p:Nat),.bool false]
def Fy(a p k:Nat)(w:World)(lo:Nat)(rv:Value)(q pp:Nat):Prop:=
 (seq%2<k->q=seq/\pp=p/\∃r,lo<=r/\rv= .pointer (some ⟨r,0,none⟩)/\cX w r a .nilIface)/\(¬seq%2<k->q<seq)
def oF(b:Nat):Prop:=b=gT\/b=g
theorem Fy.only{seq:Nat}(h:Fy seq a p k w lo rv q pp)(ho:ag F w w')(hk:bR F w [242,108]):Fy seq a p k w' lo rv q pp:=
 ⟨λhs=>by obtain⟨e1,e2,r,e3,e4,e5⟩:=h.1 hs;exact⟨e1,e2,r,e3,e4,ho.cY hk e5 zj⟩,h.2⟩
theorem Fy.aiT{d:Pl.Dk}{first n seq:Nat}(h:Fy seq a p k w lo rv q pp)(hne:seq%2≠k):Fy seq a p (k+1) w lo rv q pp:=
 ⟨λhs=>h.1 zo,λhs=>h.2 zo⟩
theorem VB(gt bD bN g first n:Nat)(vD:Value)(d:Pl.Dk)(rd:Int)(seq a p:Nat)(w:World)(h:aJ w g vD d rd)(hl:d.aW≠0)(hs:BQ d first n seq a p)(hn:n<=4096)(adt:16<=n)(hf:first+n<=d.aV.length)
 (hD:ay w bD 35 [.pointer (some ⟨g,0,none⟩)]) (hN:ay w bN 3 [.int .i64 (n:Nat)]) (ht:ay w gt 140 [.pointer (some ⟨gT,0,none⟩)]) (hT:ay w gT 242 (qj g first n (.pointer none) 0 0)):
 bG 162 #[.pointer (some ⟨bD,0,none⟩),.pointer (some ⟨gt,0,none⟩),.pointer (some ⟨bN,0,none⟩)] w λe w'=>e= .returned (.tuple #[])/\∃r cO,w.heap.size<=r/\ay w' gT 242 (qj g first n (.pointer (some ⟨r,0,none⟩)) seq p)/\cX w' r a .nilIface/\aJ w' g vD d cO/\tF 2 rd cO/\ag (oF gT g) w w':=by
 obtain⟨wr0,sy0,pO⟩:=h.aC;have hK:bR (oF gT g) w [242,108]:=by
  rintro k (rfl|rfl)
  ·exact⟨_,zu,hT.dV⟩
  ·exact⟨_,zu,pO.dV⟩
 have xz:=tH g vD d rd w h;have hdl:((d.aW==0)=false):=by simp[hl]
 have asG:g≠gT:=λe=>by subst e;exact absurd (hT.RI pO) zj
 have HH:=h;have HK:=hK;have cD:w.cell? ⟨bD,0,none⟩=some (.pointer (some ⟨g,0,none⟩)):=hD.cell 0;have nX:seq%2<2:=zo;go_enter Tryz.func162,Tryz.ntmps162;go_wp2_with fail;refine xz.mono ?_;rintro e w' ⟨rfl,rfl⟩;rw[hdl];go_wp2_with fail
 go_loopw [11] (λi W=>∃(k:Nat) (Hm:Int) (rv:Value) (q pp:Nat),k<=2/\i= .int .i64 (k:Int)/\Hid (aJ W g vD d Hm)/\Hid (tF k rd Hm)/\Hid (ay W gT 242 (qj g first n rv q pp))/\Hid (ag (oF gT g) w W)/\Hid (Fy seq a p k W w.heap.size rv q pp)) (λi _=>2-(intOf i).toNat)
 case atStart=>exact⟨0,rd,.pointer none,0,0,zo,rfl,HH,tF.refl _ _,hT,ag.refl _ _,⟨λh=>absurd h (Ci _),λ_=>by have:=hs.lo;omega⟩⟩
 case round=>
  obtain⟨k,Hm,rv,q,pp,hk,rfl,HDk,HRk,HTk,HOk,alL⟩:=hrel;have cT:wr.cell? ⟨gt,0,none⟩=some (.pointer (some ⟨gT,0,none⟩)):=(HOk.cY HK ht zj).cell 0;have cN:wr.cell? ⟨bN,0,none⟩=some (.int .i64 (n:Nat)):=(HOk.cY HK hN zj).cell 0;by_cases pK:k<2
  ·have asz:=Q1 gT ⟨g,first,n,0,none,0,0,false⟩ _ vD d Hm k wr HTk HDk (show first+k<d.aV.length by omega);have hwk:IntKind.i64.wrap ((k:Int)+1)=(k:Int)+1:=aY _ zo;have qk:(k:Int)<2:=zo;go_wp2_with fail;refine asz.mono ?_;rintro e w2 ⟨wD,⟨rR,oZ,ajJ⟩,fw⟩;rcases wD with⟨h0,_⟩|⟨_,rfl⟩
   ·exact absurd h0 hl
   dsimp only at oZ fw|-
   have hko:bR (·=g) wr [242,108]:=by obtain⟨_,_,pO⟩:=HDk.aC;rintro x rfl;exact⟨_,zu,pO.dV⟩
   have kJ:(ag (oF gT g) w w2):=HOk.aE (fw.mono (λ_ _ e=> .inr e));have tl:=fw.aC HTk (λe=>asG e.symm);have SY:=alL.only fw hko;have CQ:(tF (k+1) rd rR):=HRk.trans (λh1 h2=>ajJ h1 zo) (ai _);have Qi:w2.cell? ⟨gt,0,none⟩=some (.pointer (some ⟨gT,0,none⟩)):=(kJ.cY HK ht zj).cell 0;cases mW:d.look (first+k)with
   |none=>
    have hne:seq%2≠k:=λe=>by have:=hs.now;rw[e,mW]at this;cases this
    have P9:=SY.aiT (d:=d) (first:=first) (n:=n) hne;simp only[mE,oB];go_wp2_with fail;exact⟨⟨k+1,rR,rv,q,pp,zo,by go_num,oZ,CQ,tl,kJ,P9⟩,by simp[intOf];omega⟩
   |some s=>
    have JW:=uP oZ mW;have hz:=bK s;obtain⟨c,hc⟩:=ze (s.headD 0);have hd:∀(h':0<(ar s).size),(ar s)[0]=c:=by
     intro h'
     match s,JW with
     |x::r,_=>exact hc
    simp only[lU,oQ];by_cases hcc:c=84
    ·subst hcc;have q0:((84:UInt8).toNat:Int)=84:=zj;have m1:=λw=>kZ w s 1 9 1 8 rfl rfl zo;have m2:=λw=>kZ w s 9 13 9 4 rfl rfl zo;have m3:=λw=>kZ w s 13 17 13 4 rfl rfl zo;have l7:((s.drop 1).take 8).length<=8:=ow _ _;have BJ:((s.drop 9).take 4).length<=4:=ow _ _;have rN:((s.drop 13).take 4).length<=4:=ow _ _;have G1:=λW=>pI ((s.drop 1).take 8) W l7;have G2:=λW=>pI ((s.drop 9).take 4) W zo;have G3:=λW=>pI ((s.drop 13).take 4) W zo;have qG:Pl.num ((s.drop 9).take 4)<4294967296:=aK (Pl.Cj _) (jG zo BJ);have hx3:Pl.num ((s.drop 13).take 4)<4294967296:=aK (Pl.Cj _) (jG zo rN);obtain⟨x,hx⟩:=ze (Pl.num ((s.drop 1).take 8));obtain⟨a2,ha2⟩:=ze (Pl.num ((s.drop 9).take 4));obtain⟨p2,QC⟩:=ze (Pl.num ((s.drop 13).take 4));rw[hx]at G1;rw[ha2]at G2 qG;rw[QC]at G3 hx3;have HX:=zd hx ha2 QC;obtain⟨z1,kK⟩:=ze (ar ((s.drop 1).take 8));obtain⟨z2,mY⟩:=ze (ar ((s.drop 9).take 4));obtain⟨z3,hz3⟩:=ze (ar ((s.drop 13).take 4));rw[kK]at m1 G1;rw[mY]at m2 G2;rw[hz3]at m3 G3;have c5:w2.cell? ⟨gT,5,none⟩=some (.int .u64 (q:Nat)):=tl.cell 5;have f5:w2.frozen? ⟨gT,5,none⟩=false:=tl.frozen 5;by_cases hqx:q<x
     ·have q5:(x:Int)>(q:Int):=zo;obtain⟨w3,fX⟩:=ze (w2.setCell ⟨gT,5,none⟩ (.int .u64 (x:Nat)));have SE:ay w3 gT 242 (qj g first n rv x pp):=by rw[<-fX];exact tl.bw 5 _
      have sR:ag (oF gT g) w w3:=by rw[<-fX];exact kJ.setCell (p:=⟨gT,5,none⟩) (.inl (.inl rfl)) _
      have EY:=sR.cY HK ht zj;have d3:w3.cell? ⟨gt,0,none⟩=some (.pointer (some ⟨gT,0,none⟩)):=EY.cell 0;have D3:=d3;have EH:IntKind.i64.wrap (a2:Int)=(a2:Int):=aY _ zo;have YQ:IntKind.i64.wrap (p2:Int)=(p2:Int):=aY _ zo;obtain⟨r,hr⟩:=ze w3.heap.size;obtain⟨w4,qz⟩:=ze (w3.drew.alloc (.cells #[.int .i64 (a2:Nat),.nilIface] 265));have cj:Below w3.heap.size w3 w4:=by rw[<-qz];exact((ak w3.heap.size w3).drew).alloc (ai _) _
      have Dg:cX w4 r a2 .nilIface:=by rw[<-qz,<-hr];exact ay.new w3.drew 265 _
      have XV:=SE.aa cj SE.lt;have Lf:=EY.aa cj EY.lt;have D4:(w4.cell? ⟨gt,0,none⟩=some (.pointer (some ⟨gT,0,none⟩))):=Lf.cell 0;have f4:w4.frozen? ⟨gT,3,none⟩=false:=XV.frozen 3;have c43:w4.cell? ⟨gT,3,none⟩=some rv:=XV.cell 3;have amG:gt≠gT:=Lf.ne XV zj;have agU:r≠gT:=Dg.ne XV zj;obtain⟨w5,wO⟩:=ze (w4.setCell ⟨gT,3,none⟩ (.pointer (some ⟨r,0,none⟩)));have mm:ay w5 gT 242 (qj g first n (.pointer (some ⟨r,0,none⟩)) x pp):=by rw[<-wO];exact XV.bw 3 _
      have kF:ag (·=gT) w4 w5:=by rw[<-wO];exact(ag.refl (·=gT) w4).zs 3
      have vu:=kF.aC Lf amG;have hR5:=kF.aC Dg agU;have D5:(w5.cell? ⟨gt,0,none⟩=some (.pointer (some ⟨gT,0,none⟩))):=vu.cell 0;have f5':w5.frozen? ⟨gT,6,none⟩=false:=mm.frozen 6;have c56:w5.cell? ⟨gT,6,none⟩=some (.int .i64 (pp:Nat)):=mm.cell 6;obtain⟨w6,nC⟩:=ze (w5.drew.setCell ⟨gT,6,none⟩ (.int .i64 (p2:Nat)));have GU:ay w6 gT 242 (qj g first n (.pointer (some ⟨r,0,none⟩)) x p2):=by rw[<-nC];exact(show ay w5.drew gT 242 _ from mm).bw 6 _
      have jV:ag (·=gT) w5 w6:=by rw[<-nC];exact((ag.refl (·=gT) w5).drew).setCell (p:=⟨gT,6,none⟩) (.inl rfl) _
      have hB6:=jV.aC vu amG;have Ua:=jV.aC hR5 agU;have D6:(w6.cell? ⟨gt,0,none⟩=some (.pointer (some ⟨gT,0,none⟩))):=hB6.cell 0;have hoT:ag (·=gT) w2 w6:=by
       have h1:ag (·=gT) w2 w3:=by rw[<-fX];exact(ag.refl (·=gT) w2).zs 5
       exact((h1.aa cj).aE (kF.mono (λ_ _ e=>e))|>.aE (jV.mono (λ_ _ e=>e)))
      have fu:w.heap.size<=r:=by rw[<-hr];exact sR.size
      have hrel:Fy seq a p (k+1) w6 w.heap.size (.pointer (some ⟨r,0,none⟩)) x p2:=by
       have Mw:k=seq%2\/k=(seq+1)%2:=zo;rcases Mw with e|e
       ·have h1:=hs.now;rw[<-e,mW]at h1;injection h1 with h1;have e1:x=seq:=by rw[<-HX.1,h1];exact Q8 a p hs.hi
        have e2:a2=a:=by rw[<-HX.2.1,h1];exact ada seq p (zA hs.a2)
        have e3:p2=p:=by rw[<-HX.2.2,h1];exact Wl seq a (zA hs.p2)
        exact⟨λ_=>⟨e1,e3,r,fu,rfl,by rw[<-e2];exact Ua⟩,λhn=>absurd (show seq%2<k+1 by omega) hn⟩
       ·have h1:=hs.old s (by rw[<-e];exact mW) hc;rw[HX.1]at h1;refine⟨λhn=>?_,λ_=>h1⟩;have h2:=(SY.1 zo).1;omega
      have HD6:=oZ.iC hoT (aD tl) zj zj;go_wp2_with fail;refine(G1 _).mono ?_;rintro e w' ⟨rfl,rfl⟩;go_wp2_with fail;refine aN 9 (λ_=>True) (λW=>W.cell? ⟨gt,0,none⟩=some (.pointer (some ⟨gT,0,none⟩))) zp trivial D3 (λaz=>?_);refine zt 0 (h:=zt 1 (h:=zt 2 (h:=?_)));refine zr 3 λK hK=>?_;go_simp;refine(G2 _).mono ?_;rintro e w' ⟨rfl,rfl⟩;go_wp2_with fail;refine hK.out _ _ ⟨λ_=>trivial,D3⟩ (λaz=>?_);refine zt 4 (h:=zt 5 (h:=?_));refine zr 6 λK hK=>?_;go_simp;refine hK.out _ _ ⟨λ_=>trivial,D4⟩ (λaz=>?_);refine zt 7 (h:=zt 8 (h:=?_));refine zr 9 λK hK=>?_;go_simp;refine hK.out _ _ ⟨λ_=>trivial,D5⟩ (λaz=>?_);(try simp only[Act.put,zq1,zq2,zP,zq4,zq5,RR]);refine bh zp ?_ _;go_wp2_with fail;refine aN 7 (λ_=>True) (λW=>W.cell? ⟨gt,0,none⟩=some (.pointer (some ⟨gT,0,none⟩))) zp trivial D5 (λaz=>?_);refine zt 0 (h:=zt 1 (h:=zt 2 (h:=?_)));refine zr 3 λK hK=>?_;go_simp;refine(G3 _).mono ?_;rintro e w' ⟨rfl,rfl⟩;go_wp2_with fail;refine hK.out _ _ ⟨λ_=>trivial,D5⟩ (λaz=>?_);refine zt 4 (h:=zt 5 (h:=zt 6 (h:=?_)));refine zr 7 λK hK=>?_;go_simp;refine hK.out _ _ ⟨λ_=>trivial,D6⟩ (λaz=>?_);(try simp only[Act.put,zq1,zq2,zP,zq4,zq5,RR]);refine bh zp ?_ _;go_wp2_with fail;exact⟨⟨k+1,rR,.pointer (some ⟨r,0,none⟩),x,p2,zo,by go_num,HD6,CQ,GU,kJ.aE (hoT.mono (λ_ _ e=> .inl e)),hrel⟩,by simp[intOf];omega⟩
     ·have q5:¬(x:Int)>(q:Int):=zo;have q6:decide ((x:Int)>(q:Int))=false:=aH q5;have hne:seq%2≠k:=λe=>by
       have h1:=hs.now;rw[e,mW]at h1;injection h1 with h1;have h2:x=seq:=by rw[<-HX.1,h1];exact Q8 a p hs.hi
       have h3:=SY.2 zo;omega
      have P9:=SY.aiT (d:=d) (first:=first) (n:=n) hne;go_wp2_with fail;refine(G1 _).mono ?_;rintro e w' ⟨rfl,rfl⟩;go_wp2_with fail;exact⟨⟨k+1,rR,rv,q,pp,zo,by go_num,oZ,CQ,tl,kJ,P9⟩,by simp[intOf];omega⟩
    ·have q0:((c.toNat:Int) !=84)=true:=by have:c.toNat≠84:=λh=>hcc (uF.1 h);simp;omega
     have hne:seq%2≠k:=λe=>by have h1:=hs.now;rw[e,mW]at h1;injection h1 with h1;have h2:=hc;rw[h1,aaP]at h2;exact hcc h2.symm
     have P9:=SY.aiT (d:=d) (first:=first) (n:=n) hne;go_wp2_with fail;exact⟨⟨k+1,rR,rv,q,pp,zo,by go_num,oZ,CQ,tl,kJ,P9⟩,by simp[intOf];omega⟩
  ·obtain rfl:k=2:=zo;obtain⟨rfl,rfl,r,fu,rfl,hR⟩:=alL.1 nX;have c3:wr.cell? ⟨gT,3,none⟩=some (.pointer (some ⟨r,0,none⟩)):=HTk.cell 3;have c6:wr.cell? ⟨gT,6,none⟩=some (.int .i64 (pp:Nat)):=HTk.cell 6;have cr:wr.cell? ⟨r,0,none⟩=some (.int .i64 (a:Nat)):=hR.cell 0;have q1:¬(a:Int)<2:=zA hs.a1;have q1':decide ((a:Int)<2)=false:=aH q1;have q2:¬(a:Int)>=(n:Int):=zA hs.a2;have q2':decide ((a:Int)>=(n:Int))=false:=aH q2;have q2a:¬(n:Int)<=(a:Int):=zA hs.a2;have q2b:decide ((n:Int)<=(a:Int))=false:=aH q2a;have q4a:¬(n:Int)<(pp:Int):=zA hs.p2;have q4b:decide ((n:Int)<(pp:Int))=false:=aH q4a;have q2c:decide (n<=a)=false:=aH (zA hs.a2);have q4c:decide (n<pp)=false:=aH (zA hs.p2);have q3c:decide (pp<1)=false:=aH (zA hs.p1);have q3:¬(pp:Int)<1:=zA hs.p1;have q3':decide ((pp:Int)<1)=false:=aH q3;have q4:¬(pp:Int)>(n:Int):=zA hs.p2;have q4':decide ((pp:Int)>(n:Int))=false:=aH q4;go_wp2_with fail;go_quiet (fail);go_wp2_with fail;go_end0;exact⟨rfl,r,Hm,fu,HTk,hR,HDk.aa (((ag.refl (λ_=>False) wr).drewN _).cW (ai _) (λ_ _=>id)),HRk,HOk.drewN _⟩
def CJ(first n:Nat)(vD:Value)(d:Pl.Dk)(rd:Int)(seq a p r:Nat)(w w':World):Prop:=
 w.heap.size<=gT/\w.heap.size<=r/\ny w' gT ⟨g,first,n,r,some r,seq,p,false⟩/\cX w' r a .nilIface/\(∃cO,aJ w' g vD d cO/\tF 2 rd cO)/\ag (·=g) w w'
theorem Nn:(callFunc 162 cg).run Tryz.prog W= .ok (.enter 162 cg) W:=by simp[go_sem]
theorem aaj(first n:Nat)(vD:Value)(d:Pl.Dk)(rd:Int)(seq a p:Nat)(w:World)(h:aJ w g vD d rd)(hl:d.aW≠0)(hs:BQ d first n seq a p)(hn:n<=4096)(adt:16<=n)(hf:first+n<=d.aV.length):
 bG 100 #[.pointer (some ⟨g,0,none⟩),.int .i64 (first:Nat),.int .i64 (n:Nat)] w λe w'=>∃gT r,e= .returned (.tuple #[.pointer (some ⟨gT,0,none⟩),.nilIface])/\CJ gT g first n vD d rd seq a p r w w':=by
 obtain⟨bD,w1,hbD,dj,aI,B1⟩:=zE w 35 [.pointer (some ⟨g,0,none⟩)];obtain⟨bN,w2,hbN,iA,bz,B2⟩:=zE w1 3 [.int .i64 (n:Nat)];have eC:=aI.trans (bz.mono aI.size);have OK:=B1.aa bz B1.lt;have HP:=F3 g vD d rd first n w2 (h.aa eC) adt hf;obtain⟨gT,hgT⟩:=ze w2.heap.size;obtain⟨w3,fX,bg⟩:=zF w2 (.cells #[.pointer (some ⟨g,0,none⟩),.int .i64 (first:Nat),.int .i64 (n:Nat),.pointer none,.pointer none,.int .u64 0,.int .i64 0,.bool false] 242);have B3:ay w3 gT 242 (qj g first n (.pointer none) 0 0):=by rw[<-fX,<-hgT];exact ay.new w2 242 _
 obtain⟨gt,w4,Ub,qz,cj,B4⟩:=zE w3 140 [.pointer (some ⟨gT,0,none⟩)];have adq:=bg.trans (cj.mono bg.size);have mN:=eC.trans (adq.mono eC.size);have anu:w.heap.size<=gT:=by rw[<-hgT];exact eC.size
 have Pu:(bG 161 #[.func (.func 162) #[] #[.pointer (some ⟨bD,0,none⟩),.pointer (some ⟨gt,0,none⟩),.pointer (some ⟨bN,0,none⟩)]] w4 λe w'=>e= .returned .nilIface/\∃r cO,w.heap.size<=r/\ay w' gT 242 (qj g first n (.pointer (some ⟨r,0,none⟩)) seq p)/\cX w' r a .nilIface/\aJ w' g vD d cO/\tF 2 rd cO/\ag (oF gT g) w4 w'):=by
  obtain⟨W1,tC,ja⟩:=zF w4 (.cells #[.nilIface] 73);have he:ay W1 w4.heap.size 73 [.nilIface]:=by rw[<-tC];exact ay.new w4 73 _
  have yH:=mN.trans (ja.mono mN.size);have ahw:=adq.trans (ja.mono adq.size);have vT:=h.aa yH;have hp:=VB gT gt bD bN g first n vD d rd seq a p W1 vT hl hs hn adt hf (OK.aa ahw OK.lt) (B2.aa ahw B2.lt) (B4.aa ja B4.lt) ((B3.aa cj B3.lt).aa ja (B3.aa cj B3.lt).lt);have yX:bR (oF gT g) W1 [242,108]:=by
   obtain⟨_,_,pO⟩:=vT.aC;rintro k (rfl|rfl)
   ·exact⟨_,zu,((B3.aa cj B3.lt).aa ja (B3.aa cj B3.lt).lt).dV⟩
   ·exact⟨_,zu,pO.dV⟩
  refine(ER 162 #[.pointer (some ⟨bD,0,none⟩),.pointer (some ⟨gt,0,none⟩),.pointer (some ⟨bN,0,none⟩)] w4 (λk w'=>k=0/\ay w' w4.heap.size 73 [.nilIface]/\∃r cO,w.heap.size<=r/\ay w' gT 242 (qj g first n (.pointer (some ⟨r,0,none⟩)) seq p)/\cX w' r a .nilIface/\aJ w' g vD d cO/\tF 2 rd cO/\ag (oF gT g) w4 w') (Nn _) ?_).mono ?_
  ·rw[tC];refine hp.mono ?_;rintro e w' ⟨rfl,r,cO,q1,q2,q3,q4,q5,q6⟩;have jM:=q6.cY yX he zj;exact⟨jM,0,.inl ⟨rfl,rfl⟩,rfl,jM,r,cO,ao yH.size q1,q2,q3,q4,q5,(ag.ae ja (oF gT g)).aE q6⟩
  ·rintro e sL ⟨k,w',_,⟨rfl,jM,r,cO,q1,q2,q3,q4,q5,q6⟩,ho,rfl⟩;have hke:=aD jM;exact⟨rfl,r,cO,q1,ho.cY hke q2 zj,ho.cY hke q3 zj,q4.iC ho hke zj zj,q5,q6.trans ho (λx hx e=>by omega)⟩
 have F0:=B3.aa cj B3.lt;have HDW:=h;have c1:w2.cell? ⟨bD,0,none⟩=some (.pointer (some ⟨g,0,none⟩)):=OK.cell 0;have c2:w2.cell? ⟨bN,0,none⟩=some (.int .i64 (n:Nat)):=B2.cell 0;have JJ:=zf Tryz.prog;go_enter Tryz.func100,Tryz.ntmps100;go_wp2_with fail;refine HP.mono ?_;rintro e w' ⟨rfl,rfl⟩;go_wp2_with fail;refine Pu.mono ?_;rintro e w5 ⟨rfl,r,cO,q1,q2,q3,q4,q5,q6⟩;have yX:bR (oF gT g) w4 [242,108]:=by
  obtain⟨_,_,pO⟩:=(HDW.aa mN).aC;rintro k (rfl|rfl)
  ·exact⟨_,zu,F0.dV⟩
  ·exact⟨_,zu,pO.dV⟩
 have mm:=q6.cY yX B4 zj;have hne:gt≠gT:=mm.ne q2 zj;have agU:r≠gT:=q3.ne q2 zj;have d5:w5.cell? ⟨gt,0,none⟩=some (.pointer (some ⟨gT,0,none⟩)):=mm.cell 0;have c3:w5.cell? ⟨gT,3,none⟩=some (.pointer (some ⟨r,0,none⟩)):=q2.cell 3;have c4:w5.cell? ⟨gT,4,none⟩=some (.pointer none):=q2.cell 4;have f4:w5.frozen? ⟨gT,4,none⟩=false:=q2.frozen 4;obtain⟨w6,nC⟩:=ze (w5.drew.setCell ⟨gT,4,none⟩ (.pointer (some ⟨r,0,none⟩)));have jV:ag (·=gT) w5 w6:=by rw[<-nC];exact((ag.refl (·=gT) w5).drew).setCell (p:=⟨gT,4,none⟩) (.inl rfl) _
 have GU:ny w6 gT ⟨g,first,n,r,some r,seq,p,false⟩:=by rw[<-nC];exact(show ay w5.drew gT 242 _ from q2).bw 4 _
 have d6:w6.cell? ⟨gt,0,none⟩=some (.pointer (some ⟨gT,0,none⟩)):=(jV.aC mm hne).cell 0
 have HX:(CJ gT g first n vD d rd seq a p r w w6):=⟨anu,q1,GU,jV.aC q3 agU,⟨cO,q4.iC jV (aD q2) zj zj,q5⟩,
  ((ag.ae mN (·=g)).trans (q6.trans jV (λ_ _ e=> .inl e)) (λx hx e=>by
    rcases e with e|e
    ·exact absurd anu zo
    ·exact e))⟩
 have D6:=d6;go_wp2_with fail;refine aN 7 (λW=>W.cell? ⟨gT,3,none⟩=some (.pointer (some ⟨r,0,none⟩))) (λW=>W.cell? ⟨gt,0,none⟩=some (.pointer (some ⟨gT,0,none⟩))) zp c3 d5 (λaz=>?_);refine zt 0 (h:=zt 1 (h:=zt 2 (h:=zt 3 (h:=zl 4 (h:=zt 5 (h:=zt 6 (h:=?_)))))));refine zr 7 λK hK=>?_;go_simp;refine hK.out _ _ ⟨zk zp,D6⟩ (λaz=>?_);(try simp only[Act.put,zq1,zq2,zP,zq4,zq5,RR]);refine bh zp ?_ _;have d6:=D6;go_wp2_with fail;go_ret2;exact⟨gT,r,rfl,HX⟩
theorem Tryz.V4:Elt 286 206 2:=by obtain⟨i,h1,h2,h3,h4⟩:=bV (show(Tryz.prog.info? 206).map (λi=>(i.zero,i.size,i.bytes))=some (some (.agg #[.slice none 0 0,.slice none 0 0]),2,48) by kernel_rfl);exact⟨Tryz.underlying286,⟨i,_,h1,h2,h3,zo,rfl⟩,zo⟩
def mG(w:World)(A:Option Addr)(l:List UInt8):Prop:=aw w A l/\∀q,A=some q->jh w q.block 5
theorem mG.only{F:Nat->Prop}{w w':World}{A:Option Addr}{l:List UInt8}{ts:List TypeId}(h:mG w A l)(ho:ag F w w')(hk:bR F w ts)(h1:5∉ts):mG w' A l:=
 ⟨Ms h.1 h.2 ho hk h1,λq hq=>(h.2 q hq).only ho hk h1⟩
def KJ(w:World)(aq:Nat)(c:List Value)(p:Pl.Pr):Prop:=∃A ca B cb,c=[.slice A p.key.length ca,.slice B p.val.length cb]/\mG w A p.key/\mG w B p.val/\(p.key.length<=ca/\p.val.length<=cb)/\(∀q,A=some q->aq<=q.block)/\∀q,B=some q->aq<=q.block
def xy(w:World)(aq:Nat)(v:Value)(acc:List Pl.Pr):Prop:=∃cs,Rw 206 2 w aq v acc.length cs/\fW 2 (KJ w aq) cs acc
theorem KJ.only{F:Nat->Prop}{w w':World}{aq:Nat}{c:List Value}{p:Pl.Pr}{ts:List TypeId}(h:KJ w aq c p)(ho:ag F w w')(hk:bR F w ts)(h1:5∉ts):KJ w' aq c p:=by obtain⟨A,ca,B,cb,e,h2,h3,h4⟩:=h;exact⟨A,ca,B,cb,e,h2.only ho hk h1,h3.only ho hk h1,h4⟩
theorem xy.only{F:Nat->Prop}{w w':World}{aq:Nat}{v:Value}{acc:List Pl.Pr}{ts:List TypeId}(h:xy w aq v acc)(ho:ag F w w')(hk:bR F w ts)(h1:5∉ts)(h2:206∉ts):xy w' aq v acc:=by
 obtain⟨cs,h3,h4⟩:=h;exact⟨cs,h3.only ho (λg hg hf=>by
  obtain⟨t,k1,k2⟩:=hk g hf;exact h2 ((dc h3 hg).dv k2▸k1)),h4.mono (λc x _ hx=>hx.only ho hk h1)⟩
theorem xy.nil(w:World)(aq:Nat):xy w aq (.slice none 0 0) []:=⟨[],Rw.nil w aq,fW.nil _ _⟩
structure rH(w:World)(go gm aq many:Nat)(acc:List Pl.Pr):Prop where
 out:∃v,ay w go 286 [v]/\xy w aq v acc
 many:ay w gm 3 [.int .i64 (many:Nat)]
theorem rH.only{F:Nat->Prop}{w w':World}{go gm aq many:Nat}{acc:List Pl.Pr}{ts:List TypeId}(h:rH w go gm aq many acc)(ho:ag F w w')(hk:bR F w ts)(h1:5∉ts)(h2:206∉ts)(h3:286∉ts)(h4:3∉ts):rH w' go gm aq many acc:=by obtain⟨v,k1,k2⟩:=h.out;exact⟨⟨v,ho.cY hk k1 h3,k2.only ho hk h1 h2⟩,ho.cY hk h.many h4⟩
theorem rH.aa{go gm aq many:Nat}{acc:List Pl.Pr}(h:rH w go gm aq many acc)(hb:dP w w'):rH w' go gm aq many acc:=
 h.only (ag.ae hb (λ_=>False)) (ts:=[]) (λ_ h=>h.elim) zu zu zu zu
def aeM(w w':World):Prop:=∃F,ag F w w'/\bR F w [286,206]/\∀k,F k->aq<=k
theorem Wf(go gm aq many:Nat)(acc:List Pl.Pr)(p:Pl.Pr)(w:World)(hs:rH w go gm aq many acc)(hgo:aq<=go)(hb:aq<=w.heap.size)(hp:p.key.length<=1000/\p.val.length<=1000)(hl:acc.length<=100000)(hm:many<=100000):
 bG 323 #[.agg #[.string (ar p.key),.string (ar p.val)],.pointer (some ⟨go,0,none⟩),.pointer (some ⟨gm,0,none⟩)] w λe w'=>
  e= .returned (.bool (decide (acc.length+1<many)))/\rH w' go gm aq many (acc++ [p])/\aeM aq w w':=by
 obtain⟨v,hbo,cs,hrw,TX⟩:=hs.out;obtain⟨A0,MV,rfl,_,_,_⟩:=hrw.eo;have hbm:=hs.many;obtain⟨nk,CF⟩:=ze p.key.length;obtain⟨nv,wP⟩:=ze p.val.length;obtain⟨na,hna⟩:=ze acc.length;obtain⟨gp,w1,hgp,dj,aI,B1⟩:=zE w 399 [.string (ar p.key),.string (ar p.val)];have ajo:=rZ w1 (ar p.key);rw[bK,CF]at ajo;obtain⟨cz1,aok⟩:=ze (grownCap w1 nk 0 5);rw[aok]at ajo;obtain⟨g1,nY⟩:=ze w1.heap.size;obtain⟨w2,iA⟩:=ze (w1.drew.alloc (pF (ar p.key) cz1));rw[nY,iA]at ajo;have bz:Below w1.heap.size w1 w2:=by rw[<-iA];exact((ak w1.heap.size w1).drew).alloc (ai _) _
 have EC:mG w2 (some ⟨g1,0,none⟩) p.key:=by
  have h1:w2.heap[g1]?=some (pF (ar p.key) cz1):=by rw[<-iA,<-nY];exact heap_alloc_new w1.drew _
  exact⟨sj h1,λq hq=>by cases hq;exact⟨_,_,h1⟩⟩
 have ajM:=rZ w2 (ar p.val);rw[bK,wP]at ajM;obtain⟨cz2,apb⟩:=ze (grownCap w2 nv 0 5);rw[apb]at ajM;obtain⟨g2,rQ⟩:=ze w2.heap.size;obtain⟨w3,fX⟩:=ze (w2.drew.alloc (pF (ar p.val) cz2));rw[rQ,fX]at ajM;have bg:Below w2.heap.size w2 w3:=by rw[<-fX];exact((ak w2.heap.size w2).drew).alloc (ai _) _
 have EY:mG w3 (some ⟨g2,0,none⟩) p.val:=by
  have h1:w3.heap[g2]?=some (pF (ar p.val) cz2):=by rw[<-fX,<-rQ];exact heap_alloc_new w2.drew _
  exact⟨sj h1,λq hq=>by cases hq;exact⟨_,_,h1⟩⟩
 obtain⟨g3,w4,Cr,qz,cj,B4⟩:=zE w3 206 [.slice (some ⟨g1,0,none⟩) nk cz1,.slice (some ⟨g2,0,none⟩) nv cz2];have S4:Src w4 (some ⟨g3,0,none⟩) [.slice (some ⟨g1,0,none⟩) nk cz1,.slice (some ⟨g2,0,none⟩) nv cz2]:=Src.dE B4;have eC:=aI.trans (bz.mono aI.size);have jv:=eC.trans (bg.mono eC.size);have mN:=jv.trans (cj.mono jv.size);have nof:∀{a b:World} (h:Below a.heap.size a b),bR (λ_=>False) a ([]:List TypeId):=λ_ _ h=>h.elim;have PP4:KJ w4 aq [.slice (some ⟨g1,0,none⟩) nk cz1,.slice (some ⟨g2,0,none⟩) nv cz2] p:=by
  have Jb:=bg.trans (cj.mono bg.size);refine⟨_,cz1,_,cz2,by rw[CF,wP],EC.only (ag.ae Jb (λ_=>False)) (nof Jb) zu,EY.only (ag.ae cj (λ_=>False)) (nof cj) zu,⟨by rw[CF,<-aok];exact qS _ _ _ _,by rw[wP,<-apb];exact qS _ _ _ _⟩,λq hq=>?_,λq hq=>?_⟩
  ·injection hq with hq;subst hq;exact ao hb (nY▸aI.size)
  ·injection hq with hq;subst hq;exact ao hb (rQ▸eC.size)
 have R4:Rw 206 2 w4 aq (.slice A0 acc.length MV) acc.length cs:=hrw.aa mN;have RR4:fW 2 (KJ w4 aq) cs acc:=TX.mono (λc x _ hx=>hx.only (ag.ae mN (λ_=>False)) (nof mN) zu);have BO4:=hbo.aa mN hbo.lt;have BM4:=hbm.aa mN hbm.lt;have c1:=(hbo.aa aI hbo.lt).cell 0;have c2:w1.cell? ⟨gp,0,none⟩=some (.string (ar p.key)):=B1.cell 0;have c3:w2.cell? ⟨gp,1,none⟩=some (.string (ar p.val)):=(B1.aa bz B1.lt).cell 1;simp only[au]at c1;rw[hna]at c1 R4;have HX:=ze8 R4 RR4 PP4 BO4 BM4 S4 mN TX;have HKW:(bR (λk=>k=go\/(Value.slice A0 na MV).ownBlock=some k) w [286,206]):=λk hk=>by
  rcases hk with rfl|hk
  ·exact⟨_,zu,hbo.dV⟩
  ·exact⟨_,zu,dc hrw (by rw[hna];exact hk)⟩
 have cM:((na:Int)+1<(many:Int))↔(na+1<many):=zo;have hq:decide ((na:Int)+1<(many:Int))=decide (na+1<many):=by simp[cM]
 have GX:=sS hgo hb hl hm;have hl':na<=100000:=zo;have hwn:IntKind.i64.wrap ((na:Int)+1)=(na:Int)+1:=aY _ zo;go_enter Tryz.func323,Tryz.ntmps323;go_wp2_with (first
  |(at_builtin
    refine du Tryz.V4 rfl (.tmp 5) (.tmp 13) rfl rfl HX.1 (some ⟨g3,0,none⟩) 1 1 [.slice (some ⟨g1,0,none⟩) nk cz1,.slice (some ⟨g2,0,none⟩) nv cz2] rfl rfl HX.2.2.2.2.2.1 (by intro u hu;simp only[cV,je,iU]at hu;rcases hu with rfl|rfl<;>rfl) zo (ao GX.2.1 HX.2.2.2.2.2.2.1.size) ?_;intro v5 w5 r5 m5;obtain⟨A5,lX,rfl,_,_,_⟩:=r5.eo;have hne:∀{k:Nat} {t:TypeId} {c:List Value},ay w4 k t c->t≠206->¬(Value.slice A0 na MV).ownBlock=some k:=λjM ht e=>ht (jM.dV.dv (dc HX.1 e));have BO5:=m5.only.aC HX.2.2.2.1 (hne HX.2.2.2.1 zj);have BM5:=m5.only.aC HX.2.2.2.2.1 (hne HX.2.2.2.2.1 zj);obtain⟨x0,z0⟩:=bP BO5;obtain⟨w6,nC⟩:=ze (w5.setCell ⟨go,0,none⟩ (.slice A5 (na+1) lX));have BO6:ay w6 go 286 [.slice A5 (na+1) lX]:=by rw[<-nC];exact BO5.bw 0 _
    have jV:ag (·=go) w5 w6:=by rw[<-nC];exact(ag.refl (·=go) w5).zs 0
    have BM6:=jV.aC BM5 (BM5.ne BO5 zj);obtain⟨y0,_⟩:=bP BO6;obtain⟨y1,_⟩:=bP BM6;have Ye:=ze7 r5 m5 BO5 BM5 BO6 BM6 jV;clear r5 m5 hne BO5 BM5 BO6 BM6 jV)
  |fail)
 go_ret;obtain⟨R4,RR4,PP4,BO4,BM4,S4,mN,TX⟩:=id HX;obtain⟨r5,m5,BO5,BM5,BO6,BM6,jV⟩:=id Ye;have PB:bR (λk=>(Value.slice A0 na MV).ownBlock=some k) w4 [206]:=λk hk=>⟨_,zu,dc R4 hk⟩;have hk6:bR (·=go) w5 [286]:=aD BO5;have hmv:∀c x,KJ w4 aq c x->KJ w6 aq c x:=λc x hx=>(hx.only m5.only PB zj).only jV hk6 zj;refine⟨by rw[hna];first|rfl|(rw[<-hq];rfl)|simp[cM],⟨⟨_,BO6,cs++ [.slice (some ⟨g1,0,none⟩) nk cz1,.slice (some ⟨g2,0,none⟩) nv cz2],?_,?_⟩,BM6⟩,?_⟩
 ·rw[ax,hna,dy];exact r5.only jV (λg hg e=>by
   subst e;exact absurd ((dc r5 hg).dv BO5.dV) zj)
 ·exact(RR4.mono (λc x _ hx=>hmv c x hx)).snoc rfl (hmv _ _ PP4)
 ·refine⟨λk=>k=go\/(Value.slice A0 na MV).ownBlock=some k,?_,?_,?_⟩
  ·have h1:ag (λk=>k=go\/(Value.slice A0 na MV).ownBlock=some k) w w4:=ag.ae mN _;exact(h1.aE (m5.only.mono (λ_ _ e=> .inr e))).aE (jV.mono (λ_ _ e=> .inl e))
  ·exact HKW
  ·rintro k (rfl|hk)
   ·exact GX.1
   ·exact(AK R4 k hk).1
def lW(ts:List TypeId)(bs:Nat->Prop)(w w':World):Prop:=∃F,ag F w w'/\∀k,F k->(∃t,t∈ts/\jh w k t)\/bs k
def noB:Nat->Prop:=λ_=>False
section
variable {ts ts':List TypeId} {bs bs':Nat->Prop} {a b c w w':World}
variable {F:Nat->Prop}
theorem lW.ae(h:dP w w'):lW ts bs w w':=⟨λ_=>False,ag.ae h _,zu⟩
theorem lW.refl(w:World):lW ts bs w w:= .ae (ak _ _)
theorem lW.trans(h:lW ts bs a b)(k:lW ts bs b c):lW ts bs a c:=by
 obtain⟨F,h1,h2⟩:=h;obtain⟨F',k1,k2⟩:=k;refine⟨λx=>F x\/(x<a.heap.size/\F' x/\¬F x),(h1.mono zS).trans k1 (λx hx hF=>?_),λx hx=>?_⟩
 ·grind
 ·rcases hx with hx|⟨hl,hx,hn⟩
  ·grind
  ·refine(k2 x hx).imp (λ⟨t,g1,cs,fz,g2⟩=>⟨t,g1,cs,fz,?_⟩) id;rw[<-h1.block x hl hn];exact g2
theorem lW.mono(h:lW ts bs w w')(hs:∀t∈ts,t∈ts')(hb:∀k,bs k->bs' k):lW ts' bs' w w':=by obtain⟨F,h1,h2⟩:=h;exact⟨F,h1,λk hk=>(h2 k hk).imp (λ⟨t,g1,g2⟩=>⟨t,hs t g1,g2⟩) (hb k)⟩
theorem lW.aC{k:Nat}{t:TypeId}{cs:List Value}(h:lW ts bs w w')(hb:ay w k t cs)(ht:t∉ts)(hn:¬bs k):ay w' k t cs:=by obtain⟨F,h1,h2⟩:=h;exact h1.aC hb (λhf=>(h2 k hf).elim (λ⟨t',g1,g2⟩=>ht (hb.dV.dv g2▸g1)) hn)
theorem lW.heap{k:Nat}(h:lW ts bs w w')(hl:k<w.heap.size)(ht:∀t∈ts,¬jh w k t)(hn:¬bs k):w'.heap[k]?=w.heap[k]?:=by obtain⟨F,h1,h2⟩:=h;exact h1.block k hl (λhf=>zw)
theorem lW.src{A:Option Addr}{cs:List Value}(h:lW ts bs w w')(hs:Src w A cs)(ht:∀p,A=some p->¬bs p.block/\∀t∈ts,¬jh w p.block t):Src w' A cs:=by obtain⟨F,h1,h2⟩:=h;exact h1.src hs (λp hp hf=>zw)
theorem lW.eo{A:Option Addr}{cs:List Value}{t:TypeId}(h:lW ts bs w w')(hp:dn w A cs t)(ht:t∉ts)(hn:∀p,A=some p->¬bs p.block):dn w' A cs t:=by
 obtain⟨h1,h2⟩:=hp;refine⟨?_,λp hp=>?_⟩
 ·exact h.src h1 (λp hp=>⟨hn p hp,λt' g1 g2=>ht ((h2 p hp).dv g2▸g1)⟩)
 ·obtain⟨GV,fz,hb⟩:=h2 p hp;refine⟨GV,fz,(h.heap zw (λt' g1 g2=>ht ((h2 p hp).dv g2▸g1)) zw).trans hb⟩
theorem lW.size(h:lW ts bs w w'):w.heap.size<=w'.heap.size:=by obtain⟨F,h1,_⟩:=h;exact h1.size
theorem lW.lJ(h:ag F w w')(hF:bR F w ts):lW ts bs w w':=⟨F,h,λk hk=> .inl (hF k hk)⟩
theorem lW.since(h:lW ts bs w a)(k:ag F a b)(hF:∀x,x<w.heap.size->F x->∃t,jh w x t/\t∈ts):lW ts bs w b:=by obtain⟨F',h1,h2⟩:=h;exact⟨λx=>F' x\/(x<w.heap.size/\F x),(h1.mono zS).trans k zS,zw⟩
theorem lW.sfr(h:lW ts noB w w'):qw ts w w':=by obtain⟨F,h1,h2⟩:=h;exact⟨F,h1,bR.spare (λk hk=>(h2 k hk).elim zu (λx=>x.elim))⟩
theorem iu.TY(h:iu w w'):lW [265,108] bs w w':=by obtain⟨F,h1,h2⟩:=h.only;exact .lJ h1 h2
end
variable {w w':World} {rd:Int} {acc:List Pl.Pr} {gT:Nat} {m:Tm}
variable (E:fe) (go gm aq many:Nat) (G:Gh) (ps:List Pl.Pr)
def wkT:List TypeId:=[265,108,286,206]
def px(w w':World):Prop:=lW wkT noB w w'/\uh w w'/\Gk w w'
theorem px.trans{a b c:World}(h:px a b)(k:px b c):px a c:=⟨h.1.trans k.1,h.2.1.trans k.2.1,h.2.2.trans k.2.2⟩
theorem iu.wk(h:iu w w'):px w w':=⟨h.TY.mono (by simp[wkT]) (λ_ h=>h),h.ufr.2.1,h.ufr.gk⟩
theorem px.ae{w w':World}(h:dP w w'):px w w':=(iu.ae h).wk
theorem px.refl(w:World):px w w:= .ae (ak _ _)
theorem Gk.ajf{F:Nat->Prop}{aq:Nat}(h1:1<aq)(h2:0<aq)(fu:LO<=aq)(hF:∀k,F k->aq<=k)(ho:ag F w w'):Gk w w':=by have n1:¬F 1:=λhf=>zw;have n2:¬F 0:=λhf=>zw;exact⟨λx=>⟨ho.cell x.1 n1,ho.cell x.2.1 n1,ho.cell x.2.2 n1⟩,λx=>ho.cell x n2,ho.mono (λx _ hx=> .inl (ao fu (hF x hx)))⟩
theorem aeM.wk{aq:Nat}(h1:1<aq)(h2:0<aq)(fu:LO<=aq)(h:aeM aq w w'):px w w':=by obtain⟨F,ho,hk,hl⟩:=h;exact⟨(lW.lJ ho hk).mono (by simp[wkT]) (λ_ h=>h),λr a v hr=>⟨v,ho.cY hk hr zj,.inl rfl⟩,Gk.ajf h1 h2 fu hl ho⟩
theorem aeM.tw{aq:Nat}{E:fe}{G:Gh}(h:aeM aq w w')(ht:TW E w rd G):TW E w' rd G:=by obtain⟨F,ho,hk,hl⟩:=h;exact ht.only ho hk zj zj zj zj zj
theorem rH.Ir{go gm aq many:Nat}(h:rH w go gm aq many acc)(hf:iu w w'):rH w' go gm aq many acc:=by obtain⟨F,ho,hk⟩:=hf.only;exact h.only ho hk zj zj zj zj
theorem rH.lt{w:World}{go gm aq many:Nat}{acc:List Pl.Pr}(h:rH w go gm aq many acc):go<w.heap.size:=by obtain⟨v,h1,_⟩:=h.out;exact h1.lt
def xH(acc ps:List Pl.Pr)(w:World)(e:Ending)(w':World):Prop:=
 ∃G' cO,e= .returned (.bool (decide ((acc++ps).length<many)))/\TW E w' cO G'/\Ext G G'/\rH w' go gm aq many ((acc++ps).take many)/\px w w'
theorem Xu{E:fe}{go gm aq many:Nat}{G G2:Gh}(h1:acc.length<many)(h2:TW E w' rd G2)(h3:Ext G G2)(h4:rH w' go gm aq many acc)(h5:px w w'):xH E go gm aq many G acc [] w (.returned (.bool true)) w':=
 ⟨G2,rd,zw,h2,h3,by rw[dH,dx zo];exact h4,h5⟩
def YD:Value:= .func (.func 323) #[] #[.pointer (some ⟨go,0,none⟩),.pointer (some ⟨gm,0,none⟩)]
theorem KP(args:Array Value)(W:World):(callFunc 323 args).run Tryz.prog W= .ok (.enter 323 args) W:=by simp[go_sem]
def acQ(w:World)(w':World):Prop:=
 ∃G' cO,TW E w' cO G'/\Ext G G'/\rH w' go gm aq many (ps.take many)/\px w w'
def Sb:List TypeId:=[265,108,286,206,242]
def anO(w w':World):Prop:=lW Sb noB w w'/\uh w w'/\Gk w w'
def ScQ(v:Value)(w w':World):Prop:=
 ∃G' cO,TW E w' cO G'/\Ext G G'/\xy w' aq v (ps.take many)/\anO w w'
theorem Pb(cg:Array Value)(W:World):(callFunc 321 cg).run Tryz.prog W= .ok (.enter 321 cg) W:=by simp[go_sem]
theorem ahI(h:pz w):1<w.heap.size:=dC _ _ h.1
theorem aio(h:GE w):0<w.heap.size:=dC _ _ h
theorem anZ(h:pz w)(hT:ny w gT m):1≠gT:=λe=>by subst e;have h1:some (Value.pointer (some ⟨m.g,0,none⟩))=some (.string (ar [])):=Eq.trans (Eq.symm (hT.cell 0)) h.1;cases h1
theorem amJ(h:GE w)(hT:ny w gT m):0≠gT:=λe=>by have h1:w.cell? ⟨gT,0,none⟩=some (.pointer (some ⟨m.g,0,none⟩)):=hT.cell 0;subst e;have h2:=h1.symm.trans h;cases h2
end Go.Proofs.YtbhpofdafhahgaaGreatDoor
