/- Part 28: FgJ FgK FgL FgM FgN. -/
import Derived.Test.YtbhpofdafhahgaaGreatDoorMq27
set_option linter.all false
set_option maxHeartbeats 8000000
set_option maxRecDepth 100000
namespace Go.Proofs.YtbhpofdafhahgaaGreatDoor
open Go.RowKit Go.Maps Go.WideMaps
variable [Inhabited eH]
theorem Wh{fn:Func}{t s:Tmp}{tmps:Array Value}{w:World}{g:Nat}{a b c:Value}(h:fn.results= #[.cell t 26,.tmp s])(ht:tmps.getD t undef= .pointer (some ⟨g,0,none⟩))(hs:tmps.getD s undef=c)(hB:ay w g 26 [a,b]):
 (results fn tmps).run Tryz.prog w= .ok (.tuple #[.agg #[a,b],c]) w:=by
 have c0:=hB.cell 0;have c1:=hB.cell 1;simp only[au,aL]at c0 c1;simp only[fF]at ht hs;simp[results,h,ht,hs,go_sem,c0,c1,asAddr]
theorem lS.dg{gx n bk x:Nat}{V:ia}{f:Nat->List UInt8}{w:World}(h:lS gx V f n w)(jM:(n+1)/3=bk)(hx:Pl.cK (Pl.om f n) bk=x):
 V.b.count/3=bk/\Pl.aun V.b.ps bk=x/\x<4294967296/\(bk≠0->∃l,Pl.dI (Pl.kB bk) V.b.ps=some l/\l.length=13)/\V.b.count=n+1:=by
 have hg:=h.Ka.rM;have og:V.b.count=n+1:=by rw[hg.jX,Pl.ir]
 refine⟨zo,by rw[hg.hash (by rw[Pl.ir];omega),hx],by have:=Pl.qp (Pl.om f n) bk;omega,λh0=>?_,og⟩;obtain⟨k,rfl⟩:∃k,bk=k+1:=⟨bk-1,zo⟩;exact⟨_,hg.hed k (by rw[Pl.ir];omega),Pl.Yv _ _⟩
theorem Th(gx:Nat)(V:ia)(f:Nat->List UInt8)(n bk x:Nat)(w:World)(h:lS gx V f n w)(hn:n<=20)(jM:(n+1)/3=bk)(hx:Pl.cK (Pl.om f n) bk=x):
 bG 8 #[.pointer (some ⟨gx,0,none⟩)] w λe w'=>e= .returned (.tuple #[.agg #[.int .i64 (bk:Nat),.string (wX x)],.bool true])/\lV V.gM w w'/\lS gx V f n w':=by
 obtain⟨k1,k2,k3,k4,k5⟩:=h.dg jM hx;obtain⟨g1,w1,nY,dj,aI,B1⟩:=zE w 26 [.int .i64 0,.string ⟨#[]⟩];have HD:=Qu V (.pointer none) [] bk x w1 (h.st.aa aI) zo k1 k2 k3 k4;obtain⟨gd,qO⟩:=ze V.E.m.g;obtain⟨gD,iJ⟩:=ze V.gD;have hh:=h.hb.aa aI;rw[qO,iJ]at hh;obtain⟨⟨vn,vs,vl,b1,b2⟩,hz⟩:=id hh;have x1:w1.cell? ⟨gx,1,none⟩=some (.pointer (some ⟨gD,0,none⟩)):=b1.cell 1;unfold aU at HD;rw[iJ]at HD;have HD:=HD;have hq3:((n:Int)+1).tdiv 3=(bk:Int):=by rw[Hv zo];omega
 have p9:IntKind.i64.wrap (bk:Int)=(bk:Int):=aY _ zo;have hsz:=aaH x;have HX:=TV h qO iJ nY aI;have GZ:=tR 0;unfold Az at GZ;obtain⟨sx,Gn⟩:=ze (wX x);unfold abR at HD;rw[Gn]at HD hsz;rw[Gn];have hs4:(((sx.size:Nat):Int)==4)=true:=by rw[hsz];rfl
 go_enter Tryz.func8,Tryz.ntmps8;go_wp2_with fail;refine HD.mono ?_;rintro e w2 ⟨rfl,hD2,Fz⟩;have hm:=(HX.1.st.aa HX.2.2.2.2).noM;have BX2:ay w2 gx 40 (Dy gd gD vn vs vl (.slice none 0 0) ((n:Int)+1) (-1)):=Fz.1.aC b1 zj (λhk=>hm _ (hk▸b1.dV));have G2:ay w2 g1 26 [.int .i64 0,.string ⟨#[]⟩]:=Fz.1.aC B1 zj (λhk=>hm _ (hk▸B1.dV));obtain⟨be,w3,ja,fX,bg,B3⟩:=zE w2 32 [.int .i64 0,.string ⟨#[]⟩,.bool true];have HY:=zd hD2 Fz bg;have Lc:=BX2.aa bg BX2.lt;have HG3:=G2.aa bg G2.lt;obtain⟨e0,e1,e2,_,_,_⟩:=dD B3;unfold wN;go_wp2_with fail;refine(GZ _).mono ?_;rintro e w4 ⟨rfl,cj⟩;have AG:=Lc.aa cj Lc.lt;have HG4:=HG3.aa cj HG3.lt;have x6:w4.cell? ⟨gx,6,none⟩=some (.int .i64 ((n:Int)+1)):=AG.cell 6;have z0:=HG4.cell 0;have z1:=HG4.cell 1;have zf0:=HG4.frozen 0;have zf1:=HG4.frozen 1;simp only[au,aL]at z0 z1;obtain⟨w5,wO⟩:=ze ((w4.setCell ⟨g1,0,none⟩ (.int .i64 (bk:Nat))).setCell ⟨g1,1,none⟩ (.string sx));have o5:ag (·=g1) w4 w5:=by rw[<-wO];exact((ag.refl (·=g1) w4).zs 0).zs 1
 have G5:ay w5 g1 26 [.int .i64 (bk:Nat),.string sx]:=by rw[<-wO];exact(HG4.bw 0 _).bw 1 _
 have HQ:(lV V.gM w w5/\lS gx V f n w5):=by obtain⟨hD2,Fz,bg⟩:=id HY;obtain⟨h,qO,iJ,nY,aI⟩:=id HX;have k24:=bg.trans (cj.mono bg.size);have kK:Zn g1:= .inl (by rw[<-nY];exact h.st.ctx.lo);have hk4:=aD HG4;have hD5:=(hD2.aa k24).bQ o5 hk4 zj (λk hk=>hk▸kK);refine⟨(((lV.ae aI).trans Fz).trans (.ae k24)).new o5 (λk hk=>by omega) h.st.ctx.lo,hD5,?_,h.Ka,h.lg,h.rm⟩;exact((((h.hb.aa aI).dfr Fz (h.st.aa aI).noM).aa k24).frame o5 hk4 zj zj)
 go_wp2_with fail;refine bH (Wh rfl rfl rfl G5) rfl ⟨rfl,HQ⟩
end Go.Proofs.YtbhpofdafhahgaaGreatDoor
namespace Go.Proofs.YtbhpofdafhahgaaGreatDoor
open Go.RowKit Go.Maps Go.WideMaps
section
variable [Inhabited eH] {w w':World} {F:Nat->Prop}
theorem fN.off{G:Gh}{v:Value}(hp:∀v pg,iq w v pg->iq w' v pg)(hr:∀r x a v,G r=some x->cX w r a v->cX w' r a v):{h:Nat}->{t:Pl.Tr h}->{so:Option (Pl.ST h)}->fN w G v h t so->(∀s,so=some s->∀D n,Pl.yJ D n h s t->fN w' G v h t so)/\(so=none->fN w' G v h t none)
 |0,t,so,h=>⟨λ_ _ _ _ _=>hp v (.leaf t) h,λ_=>hp v (.leaf t) h⟩
 |h+1,t,so,⟨rs,h1,h2,h3,h4⟩=>by refine⟨λs hs D n hD=>⟨rs,hp _ _ h1,h2,h3,λs' TU i r a hri ha=>?_⟩,λe=>⟨rs,zw,h2,h3,zu⟩⟩;obtain⟨pv,h5⟩:=h4 s' TU i r a hri ha;obtain⟨hlt,_⟩:=cR.1 hri;exact⟨pv,hr r _ _ _ (h3 i r _ hri (aF zo)) h5⟩
theorem Inv.off{G:Gh}{D:Nat->Option (List UInt8)}{n:Nat}{S:List Nat}(h:Inv w G D n S)(hp:∀v pg,iq w v pg->iq w' v pg)(hr:∀r x a v,G r=some x->cX w r a v->cX w' r a v):Inv w' G D n S:=by
 intro r k t hG;rcases h r k t hG with⟨v,g1,g2⟩|⟨s,v,g1,g2,g3,g4⟩
 ·exact .inl ⟨v,zS,(fN.off hp hr g2).2 rfl⟩
 ·exact .inr ⟨s,v,zw,g2,g3,g4.imp id (λg5=>(fN.off hp hr g5).1 s rfl D n g2)⟩
theorem yo.off{G:Gh}{D:Nat->Option (List UInt8)}{n:Nat}{S:List Nat}(hi:Inv w G D n S)(hp:∀v pg,iq w v pg->iq w' v pg)(hr:∀r x a v,G r=some x->cX w r a v->cX w' r a v):(h:Nat)->(t:Pl.Tr h)->(r f:Nat)->G r=some ⟨h,t⟩->yo w h t r f->yo w' h t r f
 |0,t,r,f,hG,⟨a,v,h1,h2⟩=>⟨a,v,hr _ _ _ _ hG h1,h2⟩
 |h+1,t,r,f,hG,⟨a,v,h1,h2⟩=>by
  refine⟨a,v,zw,?_⟩;rcases h2 with h2|⟨h2,rs,F,h5,h6,h7,h8⟩
  ·omega
  ·refine .inr ⟨h2,rs,F,zw,h6,h7,λk q c hq hc=>yo.off hi hp hr h c q (F k) ?_ zw⟩;rcases hi.at0 hG with⟨v',k1,FP,k2,k3,k4,_⟩|⟨a',v',k1,_,k2⟩
   ·obtain⟨_,rfl⟩:=h1.dv k1;obtain⟨b,e,k5⟩:=h5;obtain⟨b',e',k6⟩:=k2;have:b=b':=by
     rw[e]at e';unfold eG at e'
     grind
    subst this;obtain rfl:=k5.dv k6
    grind
   ·exact absurd ((h1.dv k2).1.symm.trans h2) k1
theorem lZ.off{E:fe}{G:Gh}{aA r:Nat}{l:List Pl.Pr}{D:Nat->Option (List UInt8)}{n:Nat}{S:List Nat}(hi:Inv w G D n S)(hp:∀v pg,iq w v pg->iq w' v pg)(hr:∀r x a v,G r=some x->cX w r a v->cX w' r a v)(h:lZ E G w aA r l):lZ E G w' aA r l:=by obtain⟨x,fr,h1,h2,h3,h4,h5⟩:=h;exact⟨x,fr,h1,h2,h3,yo.off hi hp hr x.1 x.2 r fr h1 h4,h5⟩
end
variable (Z:Nat->Prop)
def dbE:List TypeId:=LJ++ [32]
def asl(E:fe)(js:List Nat)(ms:List (Nat×List Pl.Pr))(aA:Nat)(ps:List Pl.Pr)(w:World):Prop:=
 ∃rd G r,TOk E aA/\(ny w (E.to r).gT (E.to r).m/\aJ w (E.to r).m.g (E.to r).vD (E.to r).d rd/\Inv w G (E.to r).D (E.to r).m.n (E.to r).S/\(E.to r).m.first+(E.to r).m.n<=(E.to r).d.aV.length)/\((∀q x,G q=some x->Z q)/\(∀k,dF (E.to r).m.g (E.to r).vD k->Z k)/\Z (E.to r).gT)/\lZ E G w aA r ps/\(∀m∈ms,lZ E G w aA m.1 m.2)/\yh (E.to r) w G js
def aot(w:World)(gM gt:Nat):Option Pl.Tb->Prop
 |none=>dX w gM 0 (λ_=>none) 0
 |some t=>dX w gM 1 (MZ t.name (aU gt)) 1/\wH w gt t/\WU t/\Z gt
structure Ju(Z:Nat->Prop)(V:ia)(st:Int)(op:Value)(ms:List (Nat×List Pl.Pr))(w:World):Prop where
 aC:ay w V.gD 144 (Ud st V.s (aU V.gl) (aU V.E.gT) (aU V.gK) op false)
 log:dW w V.gl V.E.m.g V.va V.l
 rows:pR w V.va V.vs V.l.all
 zn:Z V.gD/\∀k,uq V.gl V.E.m.g V.E.vD V.va k->Z k
 bk:ay w V.gK 203 [.iface 140 (.pointer (some ⟨V.E.gT,0,none⟩)),.map (some V.gM),.int .i64 (V.b.count:Nat)]
 fv:asl Z V.E V.js ms V.aA V.b.ps w
 tq:aot Z w V.gM V.gt V.b.tb
 lo:Z V.gK/\Z V.gM
 ev:pz w
 ge:GE w
section
variable [Inhabited eH] {V:ia} {st:Int} {op:Value} {ms:List (Nat×List Pl.Pr)} {w:World}
theorem cU.raw(h:cU V st op ms w):Ju Zn V st op ms w:=by
 obtain⟨rd,G,r,T⟩:=h.book.fv;refine⟨h.core.aC,h.core.log,h.core.rows,h.core.zn,h.book.aC,⟨rd,G,r,T.ok,⟨T.tw.tree,T.tw.gq,T.tw.inv,T.tw.aA⟩,⟨T.tw.low.g,T.tw.low.d,T.tw.low.t⟩,T.root,T.marks,T.saved⟩,?_,h.book.lo,h.ctx.ev,h.ctx.ge⟩;have:=h.book.tq;cases hb:V.b.tb with
 |none=>rw[hb]at this;exact this
 |some t=>rw[hb]at this;exact this
theorem Ju.asL(h:Ju Zn V st op ms w)(fu:LO<=w.heap.size)(g1:¬Zn 1)(g2:¬Zn 0):cU V st op ms w:=by
 obtain⟨rd,G,r,t1,⟨t2,t3,t4,t5⟩,⟨t6,t7,t8⟩,t9,t10,t11⟩:=h.fv;refine⟨⟨h.aC,h.log,h.rows,h.zn⟩,⟨h.bk,⟨rd,G,r,t1,⟨t2,t3,t4,t5,⟨t6,t7,t8⟩,fu⟩,t9,t10,t11⟩,?_,λh=>h,h.lo⟩,⟨h.ev,h.ge,g1,g2,fu⟩⟩;have:=h.tq;cases hb:V.b.tb with
 |none=>rw[hb]at this;exact this
 |some t=>rw[hb]at this;exact this
end
theorem Ju.to{Z Z' F:Nat->Prop}{V:ia}{st:Int}{op:Value}{ms:List (Nat×List Pl.Pr)}{w w':World}(h:Ju Z V st op ms w)(ho:ag F w w')(hT:∀k t,F k->jh w k t->t∈dbE)(hz:∀k,F k->k<w.heap.size->¬Z k)(g1:¬F 1)(g2:¬F 0)(hc:∀k,k<w.heap.size->Z k->Z' k):Ju Z' V st op ms w':=by
 haveI:Inhabited eH:=⟨⟨0,λ_=>False⟩⟩;have hsp:kM F w dbE:=λk t ht hn hf=>hn (hT k t hf ht);have hnF:∀k,k<w.heap.size->Z k->¬F k:=λk hk hzk hf=>hz k hf hk hzk;obtain⟨rd,G,r,t1,⟨t2,t3,t4,t5⟩,⟨t6,t7,t8⟩,t9,t10,t11⟩:=h.fv;have Zv:V.gM<w.heap.size:=by
  have ht:=h.tq;cases hb:V.b.tb with
  |none=>rw[hb]at ht;exact dX.lt ht
  |some t=>rw[hb]at ht;exact ht.1.lt
 have hk:=dB.kinds (rd:=rd) ⟨t3,h.log,h.rows⟩;have hlt:∀k,uq V.gl V.E.m.g V.E.vD V.va k->k<w.heap.size:=λk uk=>by obtain⟨t,_,ht⟩:=hk k uk;exact ht.lt_
 have hlz:∀k,uq V.gl V.E.m.g V.E.vD V.va k->¬F k:=λk uk=>hnF k (hlt k uk) (h.zn.2 k uk);have hp:∀v pg,iq w v pg->iq w' v pg:=λv pg hp=>hp.sp ho hsp zj;have hr:∀q x a v,G q=some x->cX w q a v->cX w' q a v:=λq x a v hG hR=>ho.aC hR (hnF q hR.lt (t6 q x hG));have hub:∀k,F k->¬jh w k 5:=λk hf ht=>absurd (hT k _ hf ht) zj;refine⟨ho.aC h.aC (hnF _ h.aC.lt h.zn.1),⟨ho.aC h.log.aC (hlz _ (.inl (.inr rfl))),h.log.small⟩,⟨ho.own h.rows.own (λg hg=>hlz g (.inr hg)),λk v l hv hl=>ud ho (h.rows.each k v l hv hl) hub⟩,⟨hc _ h.aC.lt h.zn.1,λk uk=>hc k (hlt k uk) (h.zn.2 k uk)⟩,ho.aC h.bk (hnF _ h.bk.lt h.lo.1),?_,?_,⟨hc _ h.bk.lt h.lo.1,hc _ Zv h.lo.2⟩,?_,?_⟩
 ·refine⟨rd,G,r,t1,⟨ho.aC t2 (hnF _ t2.lt t8),t3.only ho (λk uk=>hnF k (t3.lt k uk) zw),t4.off hp hr,t5⟩,⟨λq x hq=>hc q (t4.lt hq) zw,λk hk=>hc k (t3.lt k hk) zw,hc _ t2.lt t8⟩,t9.off t4 hp hr,λm hm=>(t10 m hm).off t4 hp hr,?_⟩;rcases t11 with hs|⟨rs,hs,ts,ss,v,h1,h2,h3,h4,h5,h6,h7,h8⟩
  ·exact .inl hs
  ·exact .inr ⟨rs,hs,ts,ss,v,h1,h2,h3,h4,hr _ _ _ _ h2 h5,h6,h7,h8⟩
 ·have hh:w'.heap[V.gM]?=w.heap[V.gM]?:=ho.block _ Zv (hnF _ Zv h.lo.2);have ht:=h.tq;cases hb:V.b.tb with
  |none=>rw[hb]at ht;exact dX.heap ht hh
  |some t=>rw[hb]at ht;obtain⟨k1,⟨Ac,cc,k2,k3,k4⟩,k5,k6⟩:=ht;exact⟨dX.heap k1 hh,⟨Ac,cc,ho.aC k2 (hnF _ k2.lt k6),k3,k4.jL ho (λp hp' hf=>absurd (hT _ _ hf (k4.2 p hp')) zj)⟩,k5,hc _ k2.lt k6⟩
 ·obtain⟨e1,e2,e3⟩:=h.ev;exact⟨ho.cell e1 g1,ho.cell e2 g1,ho.cell e3 g1⟩
 ·exact ho.cell h.ge g2
structure CV(Z:Nat->Prop)(gx:Nat)(V:ia)(f:Nat->List UInt8)(n:Nat)(w:World):Prop where
 st:Ju Z V 0 (.pointer none) [] w
 bk:∃vn vs vl,ay w gx 40 (Dy V.E.m.g V.gD vn vs vl (.slice none 0 0) ((n:Int)+1) (-1))/\sU w vn (pE f n)
 zn:Z gx
 Ka:Un V.aA f n V.b
 lg:vr V (n+1)
 rm:V.aA=1500
theorem CV.to{Z Z' F:Nat->Prop}{gx n:Nat}{V:ia}{f:Nat->List UInt8}{w w':World}(h:CV Z gx V f n w)(ho:ag F w w')(hT:∀k t,F k->jh w k t->t∈dbE)(hz:∀k,F k->k<w.heap.size->¬Z k)(g1:¬F 1)(g2:¬F 0)(hc:∀k,k<w.heap.size->Z k->Z' k):CV Z' gx V f n w':=by haveI:Inhabited eH:=⟨⟨0,λ_=>False⟩⟩;obtain⟨vn,vs,vl,b1,b2⟩:=h.bk;exact⟨h.st.to ho hT hz g1 g2 hc,⟨vn,vs,vl,ho.aC b1 (λhf=>absurd (hT _ _ hf b1.dV) zj),b2.frame ho (λk hf ht=>absurd (hT _ _ hf ht) zj)⟩,hc _ b1.lt h.zn,h.Ka,h.lg,h.rm⟩
section
variable [Inhabited eH] {gx n:Nat} {V:ia} {f:Nat->List UInt8} {w:World}
theorem lS.raw(h:lS gx V f n w):CV Zn gx V f n w:=⟨h.st.raw,h.hb.bk,h.hb.zn,h.Ka,h.lg,h.rm⟩
theorem CV.dm(h:CV Zn gx V f n w)(fu:LO<=w.heap.size)(g1:¬Zn 1)(g2:¬Zn 0):lS gx V f n w:=⟨h.st.asL fu g1 g2,⟨h.bk,h.zn⟩,h.Ka,h.lg,h.rm⟩
end
abbrev inst(lo:Nat)(P:Nat->Prop):Inhabited eH:=⟨⟨lo,P⟩⟩
structure T7(L gx gy:Nat)(Vx Vy:ia)(fx fy:Nat->List UInt8)(n:Nat)(PX PY:Nat->Prop)(w:World):Prop where
 x:CV PX gx Vx fx n w
 y:CV PY gy Vy fy n w
 dis:∀k,PX k->¬PY k
 ltx:∀k,PX k->k<w.heap.size
 lty:∀k,PY k->k<w.heap.size
 lx:∀k,PX k->L<=k
 ly:∀k,PY k->L<=k
 gs:1<L/\0<L
 le:L<=w.heap.size
section
variable {L gx gy n:Nat} {Vx Vy:ia} {fx fy:Nat->List UInt8} {PX PY:Nat->Prop} {w w':World}
theorem T7.swap(h:T7 L gx gy Vx Vy fx fy n PX PY w):T7 L gy gx Vy Vx fy fx n PY PX w:=⟨h.y,h.x,λk hy hx=>h.dis k hx hy,h.lty,h.ltx,h.ly,h.lx,h.gs,h.le⟩
theorem T7.dm(h:T7 L gx gy Vx Vy fx fy n PX PY w): @lS (inst w.heap.size PX) gx Vx fx n w:=
 @CV.dm (inst w.heap.size PX) gx n Vx fx w (h.x.to (F:=λ_=>False) (ag.refl _ _) zu zu zu zu (λk _ hk=> .inr hk)) (ai _)
  (λhz=>hz.elim (λhz=>absurd (aK h.gs.1 h.le) (gJ.2 hz)) (λhz=>absurd h.gs.1 (gJ.2 (h.lx _ hz))))
  (λhz=>hz.elim (λhz=>absurd (aK h.gs.2 h.le) (gJ.2 hz)) (λhz=>absurd h.gs.2 (gJ.2 (h.lx _ hz))))
theorem T7.aa(h:T7 L gx gy Vx Vy fx fy n PX PY w)(hb:Below w.heap.size w w'):T7 L gx gy Vx Vy fx fy n PX PY w':=
 ⟨h.x.to (F:=λ_=>False) (ag.ae hb _) zu zu zu zu zu,h.y.to (F:=λ_=>False) (ag.ae hb _) zu zu zu zu zu,h.dis,λk hk=>aK (h.ltx k hk) hb.size,λk hk=>aK (h.lty k hk) hb.size,h.lx,h.ly,h.gs,ao h.le hb.size⟩
theorem T7.off{F:Nat->Prop}{ts:List TypeId}(h:T7 L gx gy Vx Vy fx fy n PX PY w)(ho:ag F w w')(hk:bR F w ts)(ht:∀t∈ts,t∈dbE)(hF:∀k,F k->k<w.heap.size->L<=k/\¬PX k/\¬PY k):T7 L gx gy Vx Vy fx fy n PX PY w':=by
 haveI:Inhabited eH:=⟨⟨0,λ_=>False⟩⟩;have h1:∀k t,F k->jh w k t->t∈dbE:=λk t hf mr=>by obtain⟨t',e1,e2⟩:=hk k hf;exact mr.dv e2▸ht t' e1
 have g1:¬F 1:=λhf=>by have:=(hF _ hf (aK h.gs.1 h.le)).1;have:=h.gs.1;omega
 have g2:¬F 0:=λhf=>by have:=(hF _ hf (aK h.gs.2 h.le)).1;have:=h.gs.2;omega
 exact⟨h.x.to ho h1 zS g1 g2 zu,h.y.to ho h1 zS g1 g2 zu,h.dis,λk hk=>aK (h.ltx k hk) ho.size,λk hk=>aK (h.lty k hk) ho.size,h.lx,h.ly,h.gs,ao h.le ho.size⟩
theorem T7.call(h:T7 L gx gy Vx Vy fx fy n PX PY w)(hx: @lS (inst w.heap.size PX) gx Vx fx n w')(hf: @lV (inst w.heap.size PX) Vx.gM w w'):T7 L gx gy Vx Vy fx fy n (λk=>PX k\/(w.heap.size<=k/\k<w'.heap.size)) PY w'/\∃F,ag F w w'/\(∀k,F k->PX k)/\∀k t,F k->jh w k t->t∈LJ:=by
 haveI:Inhabited eH:=⟨⟨0,λ_=>False⟩⟩;have hxr:= @lS.raw (inst w.heap.size PX) gx n Vx fx w' hx;have hm:∀t,¬jh w Vx.gM t:= @cU.noM (inst w.heap.size PX) _ _ _ _ _ (@lS.st (inst w.heap.size PX) _ _ _ _ _ h.dm);obtain⟨⟨F,h1,h2⟩,h3⟩:=hf;have hsz:=h1.size;have hq:∀k,k<w.heap.size-> @Zn (inst w.heap.size PX) k->PX k:=λk hk hz=>hz.elim (λh=>absurd hk (gJ.2 h)) id;have ho:ag (λk=>F k/\PX k) w w':=⟨h1.os,h1.tape,h1.output,h1.size,λk hk hn=>by
  by_cases e:F k
  ·exact h3.block k hk (λhz=>zw)
  ·exact h1.block k hk e⟩
 have mr:∀k t,F k/\PX k->jh w k t->t∈LJ:=λk t hk ht=>by
  rcases h2 k hk.1 with⟨t',e1,e2⟩|e
  ·exact ht.dv e2▸e1
  grind
 refine⟨⟨?_,?_,λk hk hy=>?_,λk hk=>?_,λk hk=>aK (h.lty k hk) hsz,λk hk=>?_,h.ly,h.gs,ao h.le hsz⟩,_,ho,zu,mr⟩
 ·refine hxr.to (F:=λ_=>False) (ag.refl _ _) zu zu zu zu (λk hk hz=>?_);rcases hz with hz|hz
  ·exact .inr ⟨hz,hk⟩
  ·exact .inl hz
 ·refine h.y.to ho (λk t hk ht=>List.mem_append_left _ (mr k t hk ht)) (λk hk _ hy=>h.dis k hk.2 hy) (λhk=>?_) (λhk=>?_) zu
  ·have:=h.lx _ hk.2;have:=h.gs.1;omega
  ·have:=h.lx _ hk.2;have:=h.gs.2;omega
 ·rcases hk with hk|hk
  ·exact h.dis k hk hy
  ·have:=h.lty k hy;omega
 ·rcases hk with hk|hk
  ·exact aK (h.ltx k hk) hsz
  omega
 ·rcases hk with hk|hk
  ·exact h.lx k hk
  ·exact ao h.le hk.1
theorem aaf{w0 w1 w2:World}(aI:Below w0.heap.size w0 w1)(hx: @lS (inst w0.heap.size (λ_=>False)) gx Vx fx n w1)(bz:Below w1.heap.size w1 w2)(hy: @lS (inst w1.heap.size (λ_=>False)) gy Vy fy n w2)(hg:1<w0.heap.size/\0<w0.heap.size):
 T7 w0.heap.size gx gy Vx Vy fx fy n (λk=>w0.heap.size<=k/\k<w1.heap.size) (λk=>w1.heap.size<=k/\k<w2.heap.size) w2:=by
 have h1:= @lS.raw (inst w0.heap.size (λ_=>False)) _ _ _ _ _ hx;have h2:= @lS.raw (inst w1.heap.size (λ_=>False)) _ _ _ _ _ hy;refine⟨h1.to (F:=λ_=>False) (ag.ae bz _) zu zu zu zu (λk hk hz=>⟨hz.elim id (λh=>h.elim),hk⟩),h2.to (F:=λ_=>False) (ag.refl _ _) zu zu zu zu (λk hk hz=>⟨hz.elim id (λh=>h.elim),hk⟩),λk hk hy=>by omega,λk hk=>aK hk.2 bz.size,zu,zS,λk hk=>ao aI.size hk.1,hg,ao aI.size bz.size⟩
theorem Qq{w0 w1:World}(h: @Gl (inst w0.heap.size (λ_=>False)) w0 w1):Below w0.heap.size w0 w1:=
 ag.cW h zo (λk hk hz=>hz.elim (λh=>absurd hk (gJ.2 h)) id)
end
end Go.Proofs.YtbhpofdafhahgaaGreatDoor
namespace Go.Proofs.YtbhpofdafhahgaaGreatDoor
open Go.RowKit Go.Maps Go.WideMaps
variable [Inhabited eH]
theorem lS.dfr{gx n:Nat}{V:ia}{f:Nat->List UInt8}{w w':World}(h:lS gx V f n w)(hD:cU V 0 (.pointer none) [] w')(hf:lV V.gM w w'):lS gx V f n w':=
 ⟨hD,h.hb.dfr hf h.st.noM,h.Ka,h.lg,h.rm⟩
theorem ahh(gx:Nat)(V:ia)(f:Nat->List UInt8)(n m:Nat)(w:World)(h:lS gx V f n w)(hn:n<=20)(hm:m<=n):
 bG 11 #[aU V.gD,.int .i64 ((m+1:Nat):Int)] w λe w'=>∃A aB,e= .returned (.tuple #[.slice A (Pl.bj (Pl.ed (Pl.om f n) m)).length aB,wN])/\(Pl.bj (Pl.ed (Pl.om f n) m)).length<=aB/\dn w' A (bv (Pl.bj (Pl.ed (Pl.om f n) m))) 5/\lS gx V f n w'/\lV V.gM w w':=by
 have hg:=h.Ka.rM;have og:V.b.count=n+1:=by rw[hg.jX,Pl.ir]
 refine(agn V (.pointer none) [] (m+1) (Pl.bj (Pl.ed (Pl.om f n) m)) w h.st zo zo zo (by rw[h.rm];decide) (hg.pay m (by rw[Pl.ir];omega))).mono ?_;rintro e w' ⟨A,aB,rfl,h1,h2,h3,h4⟩;exact⟨A,aB,rfl,h1,h2,h.dfr h3 h4,h4⟩
theorem RU(gx:Nat)(V:ia)(f:Nat->List UInt8)(n bk x:Nat)(w:World)(h:lS gx V f n w)(hn:n<=20)(jM:(n+1)/3=bk)(hx:Pl.cK (Pl.om f n) bk=x):
 bG 23 #[aU V.gD,.int .i64 (bk:Nat),.string (wX x)] w λe w'=>e= .returned wN/\lS gx V f n w'/\lV V.gM w w':=by
 obtain⟨k1,k2,k3,k4,k5⟩:=h.dg jM hx;refine(Tg V [] (Pl.om f n) bk x w h.st zo zo k2 k3 k4 (by rw[h.rm];decide) (by rw[h.Ka.run]) (by rw[k5,Pl.ir]) h.Ka.fine).mono ?_;rintro e w' ⟨rfl,h3,h4⟩;exact⟨rfl,h.dfr h3 h4,h4⟩
theorem TL.off{w w':World}{F:Nat->Prop}{aq:Nat}{v:Value}{xs:List (List UInt8)}(h:TL w aq v xs)(ho:ag F w w')(h1:∀g,v.ownBlock=some g->¬F g)(h2:∀k,F k->¬jh w k 5):TL w' aq v xs:=by obtain⟨cs,g1,g2⟩:=h;refine⟨cs,ho.own g1 h1,g2.mono (λ_ _ _ ⟨A,aB,e1,e2,e3,e4,e5⟩=>⟨A,aB,e1,e2,e3,e4.jL ho (λp hp hf=>h2 _ hf (e4.2 p hp)),λp hp=>?_⟩)⟩;obtain⟨q1,q2,q3⟩:=e5 p hp;exact⟨q1,aK q2 ho.size,q3⟩
end Go.Proofs.YtbhpofdafhahgaaGreatDoor
namespace Go.Proofs.YtbhpofdafhahgaaGreatDoor
open Go.RowKit Go.Maps Go.WideMaps
variable {n j L:Nat}
variable (f:Nat->List UInt8)
def vX(n j:Nat):List (List UInt8):=((Pl.om f n).take j).map Pl.bj
theorem sJ(h:j<=n+1):(vX f n j).length=j:=by haveI:Inhabited eH:=⟨⟨0,λ_=>False⟩⟩;unfold vX;rw[eT,aP,Pl.ir];omega
theorem Mp(h:j<=n):vX f n (j+1)=vX f n j++ [Pl.bj (Pl.ed (Pl.om f n) j)]:=by
 haveI:Inhabited eH:=⟨⟨0,λ_=>False⟩⟩;unfold vX;have hlt:j<(Pl.om f n).length:=by rw[Pl.ir];omega
 rw[eK,aF hlt,gH];unfold Pl.ed
 grind
def Fr2(L:Nat)(w w':World):Prop:=∃F,ag F w w'/\(∀k,F k->L<=k)/\∀k t,F k->jh w k t->t∈LJ
theorem Fr2.aC{L:Nat}{w w':World}(h:Fr2 L w w'){g:Nat}{t:TypeId}{cs:List Value}(hb:ay w g t cs)(ht:t∉LJ):ay w' g t cs:=by obtain⟨F,h1,_,h3⟩:=h;exact h1.aC hb (λhf=>ht (h3 _ _ hf hb.dV))
theorem Fr2.eo{w w':World}(h:Fr2 L w w'){A:Option Addr}{cs:List Value}{t:TypeId}(hb:dn w A cs t)(ht:t∉LJ):dn w' A cs t:=by haveI:Inhabited eH:=⟨⟨0,λ_=>False⟩⟩;obtain⟨F,h1,_,h3⟩:=h;exact hb.jL h1 (λp hp hf=>ht (h3 _ _ hf (hb.2 p hp)))
theorem Fr2.aa{w0 w w':World}(h:Fr2 L w w')(hb:Below L w0 w)(hl:L<=w0.heap.size):Below L w0 w':=by obtain⟨F,h1,h2,_⟩:=h;exact hb.trans (ag.cW h1 (ao hl hb.size) (λk hk hf=>zw))
structure Lp(es:Nat->Prop)(L gx gy n jp jq:Nat)(Vx Vy:ia)(fx fy:Nat->List UInt8)(vp vq:Value)(w:World):Prop where
 two:∃PX PY,T7 L gx gy Vx Vy fx fy n PX PY w/\(∀g,vp.ownBlock=some g->¬PX g/\¬PY g)/\(∀g,vq.ownBlock=some g->¬PX g/\¬PY g)/\∀g,es g->g<w.heap.size/\L<=g/\¬PX g/\¬PY g
 p:TL w 0 vp (vX fx n jp)
 q:TL w 0 vq (vX fy n jq)
 pl:∀g,vp.ownBlock=some g->L<=g
 ql:∀g,vq.ownBlock=some g->L<=g
 ne:∀g,vp.ownBlock=some g->vq.ownBlock≠some g
section
variable {es:Nat->Prop} {L gx gy n jp jq:Nat} {Vx Vy:ia} {fx fy:Nat->List UInt8} {vp vq:Value} {w w':World}
variable {bk x be:Nat}
theorem Lp.swap(h:Lp es L gx gy n jp jq Vx Vy fx fy vp vq w):Lp es L gy gx n jq jp Vy Vx fy fx vq vp w:=by obtain⟨PX,PY,h1,h2,h3,h9⟩:=h.two;exact⟨⟨PY,PX,h1.swap,zS,zS,zS⟩,h.q,h.p,h.ql,h.pl,λg hq hp=>h.ne g hp hq⟩
theorem Lp.aa(h:Lp es L gx gy n jp jq Vx Vy fx fy vp vq w)(hb:Below w.heap.size w w'):Lp es L gx gy n jp jq Vx Vy fx fy vp vq w':=by haveI:Inhabited eH:=⟨⟨0,λ_=>False⟩⟩;obtain⟨PX,PY,h1,h2,h3,h9⟩:=h.two;exact⟨⟨PX,PY,h1.aa hb,h2,h3,λg hg=>⟨aK zw hb.size,zw⟩⟩,h.p.aa PE.fr hb,h.q.aa PE.fr hb,h.pl,h.ql,h.ne⟩
theorem Lp.cell(h:Lp es L gx gy n jp jq Vx Vy fx fy vp vq w):w.cell? ⟨gx,1,none⟩=some (aU Vx.gD):=by obtain⟨PX,PY,h1,_⟩:=h.two;obtain⟨vn,vs,vl,b,_⟩:=h1.x.bk;exact b.cell 1
theorem Lp.call(h:Lp es L gx gy n jp jq Vx Vy fx fy vp vq w):∃PX,@lS (inst w.heap.size PX) gx Vx fx n w/\∀w',@lS (inst w.heap.size PX) gx Vx fx n w'-> @lV (inst w.heap.size PX) Vx.gM w w'->Lp es L gx gy n jp jq Vx Vy fx fy vp vq w'/\Fr2 L w w':=by
 haveI:Inhabited eH:=⟨⟨0,λ_=>False⟩⟩;obtain⟨PX,PY,h1,h2,h3,h9⟩:=h.two;refine⟨PX,h1.dm,λw' hx hf=>?_⟩;obtain⟨k1,F,k2,k3,k4⟩:=h1.call hx hf;have EO:∀g,vp.ownBlock=some g->g<w.heap.size:=λg hg=>(OL.lt h.p g hg).2;have hql:∀g,vq.ownBlock=some g->g<w.heap.size:=λg hg=>(OL.lt h.q g hg).2;have hu:∀k,F k->¬jh w k 5:=λk hf ht=>absurd (k4 k _ hf ht) zj;refine⟨⟨⟨_,PY,k1,λg hg=>⟨λhp=>?_,(h2 g hg).2⟩,λg hg=>⟨λhp=>?_,(h3 g hg).2⟩,λg hg=>⟨aK (h9 g hg).1 k2.size,(h9 g hg).2.1,λhp=>?_,(h9 g hg).2.2.2⟩⟩,h.p.off k2 (λg hg hf=>(h2 g hg).1 (k3 g hf)) hu,h.q.off k2 (λg hg hf=>(h3 g hg).1 (k3 g hf)) hu,h.pl,h.ql,h.ne⟩,F,k2,λk hk=>h1.lx k (k3 k hk),k4⟩
 ·rcases hp with hp|hp
  ·exact(h2 g hg).1 hp
  ·exact absurd (EO g hg) (gJ.2 hp.1)
 ·rcases hp with hp|hp
  ·exact(h3 g hg).1 hp
  ·exact absurd (hql g hg) (gJ.2 hp.1)
 ·rcases hp with hp|hp
  ·exact(h9 g hg).2.2.1 hp
  ·exact absurd (h9 g hg).1 (gJ.2 hp.1)
theorem Lp.aef(h:Lp es L gx gy n jp jq Vx Vy fx fy vp vq w)(hn:n<=20)(jM:(n+1)/3=bk)(hx:Pl.cK (Pl.om fx n) bk=x):
 bG 8 #[.pointer (some ⟨gx,0,none⟩)] w λe w'=>e= .returned (.tuple #[.agg #[.int .i64 (bk:Nat),.string (wX x)],.bool true])/\Lp es L gx gy n jp jq Vx Vy fx fy vp vq w'/\Fr2 L w w':=by
 obtain⟨PX,h1,h2⟩:=h.call;refine(@Th (inst w.heap.size PX) gx Vx fx n bk x w h1 hn jM hx).mono ?_
 grind
theorem Lp.verify(h:Lp es L gx gy n jp jq Vx Vy fx fy vp vq w)(hn:n<=20)(jM:(n+1)/3=bk)(hx:Pl.cK (Pl.om fx n) bk=x):
 bG 23 #[aU Vx.gD,.int .i64 (bk:Nat),.string (wX x)] w λe w'=>e= .returned wN/\Lp es L gx gy n jp jq Vx Vy fx fy vp vq w'/\Fr2 L w w':=by
 obtain⟨PX,h1,h2⟩:=h.call;refine(@RU (inst w.heap.size PX) gx Vx fx n bk x w h1 hn jM hx).mono ?_
 grind
theorem Lp.tx(h:Lp es L gx gy n jp jq Vx Vy fx fy vp vq w)(hn:n<=20){m:Nat}(hm:m<=n):
 bG 11 #[aU Vx.gD,.int .i64 ((m+1:Nat):Int)] w λe w'=>∃A aB,e= .returned (.tuple #[.slice A (Pl.bj (Pl.ed (Pl.om fx n) m)).length aB,wN])/\(Pl.bj (Pl.ed (Pl.om fx n) m)).length<=aB/\dn w' A (bv (Pl.bj (Pl.ed (Pl.om fx n) m))) 5/\Lp es L gx gy n jp jq Vx Vy fx fy vp vq w'/\Fr2 L w w':=by
 obtain⟨PX,h1,h2⟩:=h.call;refine(@ahh (inst w.heap.size PX) gx Vx fx n m w h1 hn hm).mono ?_
 grind
theorem Lp.apart(h:Lp es L gx gy n jp jq Vx Vy fx fy vp vq w)(hb:Below w.heap.size w w')(h1:w.heap.size<=be)(h2:be<w'.heap.size):Lp (·=be) L gx gy n jp jq Vx Vy fx fy vp vq w':=by haveI:Inhabited eH:=⟨⟨0,λ_=>False⟩⟩;obtain⟨PX,PY,k1,k2,k3,_⟩:=h.two;exact⟨⟨PX,PY,k1.aa hb,k2,k3,λg hg=>⟨zo,hg▸ao k1.le h1,λhp=>absurd (k1.ltx g hp) zo,λhp=>absurd (k1.lty g hp) zo⟩⟩,h.p.aa PE.fr hb,h.q.aa PE.fr hb,h.pl,h.ql,h.ne⟩
theorem Lp.clear(h:Lp es L gx gy n jp jq Vx Vy fx fy vp vq w):Lp (λ_=>False) L gx gy n jp jq Vx Vy fx fy vp vq w:=by obtain⟨PX,PY,k1,k2,k3,_⟩:=h.two;exact⟨zw,h.p,h.q,h.pl,h.ql,h.ne⟩
theorem Lp.wrote{b0 b1 b2:Value}(h:Lp (·=be) L gx gy n jp jq Vx Vy fx fy vp vq w)(hB:ay w be 32 [b0,b1,b2])(ho:ag (·=be) w w'):Lp (·=be) L gx gy n jp jq Vx Vy fx fy vp vq w':=by
 haveI:Inhabited eH:=⟨⟨0,λ_=>False⟩⟩;obtain⟨PX,PY,k1,k2,k3,k4⟩:=h.two;have hk:=aD hB;obtain⟨cp,op,_⟩:=id h.p;obtain⟨cq,oq,_⟩:=id h.q;have hu:∀k,k=be->¬jh w k 5:=λk hf ht=>by subst hf;exact absurd (ht.dv hB.dV) zj
 exact⟨⟨PX,PY,k1.off ho hk zj zS,k2,k3,λg hg=>⟨aK zw ho.size,zw⟩⟩,h.p.off ho (λg hg hf=>by subst hf;exact absurd ((dc op hg).dv hB.dV) zj) hu,h.q.off ho (λg hg hf=>by subst hf;exact absurd ((dc oq hg).dv hB.dV) zj) hu,h.pl,h.ql,h.ne⟩
theorem Lp.more{jp':Nat}{vp':Value}(h:Lp es L gx gy n jp jq Vx Vy fx fy vp vq w)(ho:TL w' 0 vp' (vX fx n jp'))(hm:Mv w w' vp vp'):Lp es L gx gy n jp' jq Vx Vy fx fy vp' vq w'/\Fr2 L w w':=by
 haveI:Inhabited eH:=⟨⟨0,λ_=>False⟩⟩;obtain⟨PX,PY,h1,h2,h3,h9⟩:=h.two;obtain⟨cs,uX,_⟩:=id h.p;have pQ:ag (λk=>vp.ownBlock=some k) w w':=ag.El hm.1;have hk:bR (λk=>vp.ownBlock=some k) w [29]:=MM uX;have mr:∀k t,vp.ownBlock=some k->jh w k t->t∈LJ:=λk t hf ht=>by obtain⟨t',e1,e2⟩:=hk k hf;rw[ht.dv e2,dU.1 e1];decide
 have adP:∀g,vp'.ownBlock=some g->vp.ownBlock=some g\/w.heap.size<=g:=λg hg=>by
  by_cases hl:g<w.heap.size
  ·by_cases e:vp.ownBlock=some g
   ·exact .inl e
   ·exact absurd hg (hm.2 g hl e)
  ·exact .inr (gJ.1 hl)
 refine⟨⟨⟨PX,PY,h1.off pQ hk zj (λk hf _=>⟨h.pl k hf,h2 k hf⟩),λg hg=>?_,h3,λg hg=>⟨aK (h9 g hg).1 pQ.size,(h9 g hg).2⟩⟩,ho,h.q.off pQ (λg hg hf=>h.ne g hf hg) (λk hf ht=>absurd (mr k _ hf ht) zj),λg hg=>?_,h.ql,λg hg hq=>?_⟩,_,pQ,h.pl,mr⟩
 ·rcases adP g hg with e|e
  ·exact h2 g e
  ·exact⟨λhp=>absurd (h1.ltx g hp) zo,λhp=>absurd (h1.lty g hp) zo⟩
 ·rcases adP g hg with e|e
  ·exact h.pl g e
  ·exact ao h1.le e
 ·rcases adP g hg with e|e
  ·exact h.ne g e hq
  ·exact absurd (OL.lt h.q g hq).2 zo
end
variable {w W:World} {k lo:Nat} {ls:List (List UInt8)} {av bv:Value}
theorem akP(k k':Int)(t t':ByteArray)(w:World):
 (binOp .neq 26 (.agg #[.int .i64 k,.string t]) (.agg #[.int .i64 k',.string t'])).run Tryz.prog w= .ok (.bool (!(k==k'&&t.toList==t'.toList))) w:=by
 have he:=run_equalIn_struct (P:=Tryz.prog) w 9999 26 #[.int .i64 k,.string t] #[.int .i64 k',.string t'] zp zp;simp only[binOp];simp only[Op.equal,Op.maxDepth,iL,he];simp[go_sem,part];by_cases h1:k=k'<;>by_cases h2:t.toList=t'.toList<;>simp[h1,h2]
theorem RO{be:Nat}{a b c:Value}(h:ay w be 32 [a,b,c])(x0 x1 x2:Value):ag (·=be) w (((w.setCell ⟨be,0,none⟩ x0).setCell ⟨be,1,none⟩ x1).setCell ⟨be,2,none⟩ x2)/\ay (((w.setCell ⟨be,0,none⟩ x0).setCell ⟨be,1,none⟩ x1).setCell ⟨be,2,none⟩ x2) be 32 [x0,x1,x2]:=
 ⟨(((ag.refl (·=be) w).setCell (p:=⟨be,0,none⟩) zu _).setCell (p:=⟨be,1,none⟩) zu _).setCell (p:=⟨be,2,none⟩) zu _,((h.bw 0 x0).bw 1 x1).bw 2 x2⟩
theorem Lj{f:Nat->List UInt8}(hf:∀i,(f i).length<=16){n j:Nat}(hn:n<=1000)(hj:j<=n):(Pl.bj (Pl.ed (Pl.om f n) j)).length<=2000:=by
 haveI:Inhabited eH:=⟨⟨0,λ_=>False⟩⟩;have h:Pl.nz (Pl.ed (Pl.om f n) j):=by
  cases j with
  |zero=>exact Pl.Fe
  |succ j=>rw[Pl.AW f zo];exact Pl.E1 zo (hf j)
 have:=Pl.mg h;omega
theorem jh.lt2{t:TypeId}(h:jh w k t):k<w.heap.size:=by
 obtain⟨cs,fz,h⟩:=h
 grind
theorem xO:∀(l:List (List UInt8)),Pl.parts l l=none
 | []=>rfl
 |a::r=>by simp only[Pl.parts];rw[ah trivial];exact xO r
theorem vU(P:List Pl.fh):∀n,Pl.dG P P n=none
 |0=>rfl
 |n+1=>by rw[ld,Dh rfl (xO _) (λd' _=>xO _)];exact vU P n
theorem Gd.found{ms:List (List UInt8)}{bk:Nat}(h:Gd lo W ls ms av bv k)(hc:Q6 ls ms)(hl:ls.length=3*bk)(hh:Pl.cK (fI ls) bk=Pl.cK (fI ms) bk){x y:List UInt8}(hd:Pl.dG (fI ls) (fI ms) bk=some (x,y)):
 k=0/\Kept lo W av (some x)/\Kept lo W bv (some y):=by
 have e:ls.length/3=bk:=zo;unfold Gd at h
 grind
theorem Gd.same(h:Gd lo W ls ls av bv k)(hc:Q6 ls ls):k=21/\av= .slice none 0 0/\bv= .slice none 0 0:=by
 rcases h with⟨h1,_⟩|⟨_,⟨_,h1,h2,h3⟩|⟨_,x',y',h2,_⟩⟩
 ·grind
 ·grind
 ·rw[vU]at h2;cases h2
theorem alF:Fr PE:=by haveI:Inhabited eH:=⟨⟨0,λ_=>False⟩⟩;exact PE.fr
theorem TL.br{v:Value}(h:TL w 0 v ls):∃A aB,v= .slice A ls.length aB/\ls.length<=aB/\BR w (·<w.heap.size) A ls:=by haveI:Inhabited eH:=⟨⟨0,λ_=>False⟩⟩;obtain⟨A,aB,cs,h1,h2,h3,h4,h5⟩:=OL.src um.fr h.bl;exact⟨A,aB,h1,h2,cs,h3,zw,zS⟩
theorem Qs(sc:ByteArray)(dm c:Int)(w:World)(hG:GE w)(hE:pz w)(yT: -9223372036854775808<=dm/\dm<=9223372036854775807)(hcc: -9223372036854775808<=c/\c<=9223372036854775807)(IQ:sc.size<=9223372036854775807):
 bG 5 #[.string sc,.int .i64 dm,.int .i64 c] w λe w'=>e= .returned (.bool true)/\Below w.heap.size w w':=by
 obtain⟨n,hn,mV⟩:∃n:Nat,ko dm 10+2=(n:Int)/\2<=n/\n<=11:=by refine⟨(ko dm 10).toNat+2,?_,?_⟩<;>unfold ko<;>split<;>omega
 obtain⟨bk,jM⟩:=ze ((n+1)/3);obtain⟨m,hm⟩:∃m,(n+1)/3*3=m+1:=⟨(n+1)/3*3-1,zo⟩;obtain⟨h,hh,hhm⟩:∃h:Nat,ko c (m:Int)=(h:Int)/\h<m:=by
  have h1:0<=ko c (m:Int):=by unfold ko;exact Int.emod_nonneg _ zo
  have h2:ko c (m:Int)<(m:Int):=by unfold ko;exact Int.emod_lt_of_pos _ zo
  exact⟨(ko c (m:Int)).toNat,zo,zo⟩
 obtain⟨a,ha,aaR⟩:∃a:Nat,ko c 50=(a:Int)/\a<50:=by refine⟨(ko c 50).toNat,?_,?_⟩<;>unfold ko<;>split<;>omega
 have ui:1<w.heap.size/\0<w.heap.size:=⟨dC _ _ hE.1,GE.lt hG⟩;have aks:∀W,Below w.heap.size w W-> @Ctx (inst W.heap.size (λ_=>False)) W:=λW hW=>
  @Ctx.mk (inst W.heap.size (λ_=>False)) W ⟨(hW.cell ui.1).trans hE.1,(hW.cell ui.1).trans hE.2.1,(hW.cell ui.1).trans hE.2.2⟩ (hG.aa hW) (λhz=>hz.elim (λhz=>absurd (aK ui.1 hW.size) (gJ.2 hz)) id) (λhz=>hz.elim (λhz=>absurd (aK ui.2 hW.size) (gJ.2 hz)) id) (ai _)
 obtain⟨fx,hfx⟩:=ze (Pl.pM sc.data.toList h a 0);obtain⟨fy,hfy⟩:=ze (Pl.pM sc.data.toList h a 1);obtain⟨x,hx⟩:=ze (Pl.cK (Pl.om fx n) bk);have hpx:∀j,j<=n->(Pl.bj (Pl.ed (Pl.om fx n) j)).length<=2000:=λj hj=>Lj (by rw[<-hfx];exactλi=> @Pl.pq ⟨⟨0,λ_=>False⟩⟩ _ _ _ _ i) zo hj;have hpy:∀j,j<=n->(Pl.bj (Pl.ed (Pl.om fy n) j)).length<=2000:=λj hj=>Lj (by rw[<-hfy];exactλi=> @Pl.pq ⟨⟨0,λ_=>False⟩⟩ _ _ _ _ i) zo hj;have hIB:Inhabited eH:=⟨⟨0,λ_=>False⟩⟩;have hy:Pl.cK (Pl.om fy n) bk=x:=by rw[<-hx,<-hfx,<-hfy];exact(@Pl.Rh hIB sc.data.toList h a n bk aaR zo).symm
 have HX:Hid (bG 22 #[.string sc,.int .i64 dm,.int .i64 c,.int .u8 0] w λe w'=>∃gx V,e= .returned (.tuple #[.pointer (some ⟨gx,0,none⟩),.bool true])/\Below w.heap.size w w'/\ @lS (inst w.heap.size (λ_=>False)) gx V fx n w'):=by have:= @Ha (inst w.heap.size (λ_=>False)) sc dm c 0 n m h a w (aks w (ak _ _)) zo hn mV hm hh ha aaR yT hcc IQ;rw[hfx]at this;exact this.mono (λe w' ⟨gx,V,h1,h2,h3⟩=>⟨gx,V,h1,Qq h2,h3⟩)
 have HY:Hid (∀W,Below w.heap.size w W->bG 22 #[.string sc,.int .i64 dm,.int .i64 c,.int .u8 1] W λe w'=>∃gx V,e= .returned (.tuple #[.pointer (some ⟨gx,0,none⟩),.bool true])/\Below W.heap.size W w'/\ @lS (inst W.heap.size (λ_=>False)) gx V fy n w'):=λW hW=>by have:= @Ha (inst W.heap.size (λ_=>False)) sc dm c 1 n m h a W (aks W hW) zo hn mV hm hh ha aaR yT hcc IQ;rw[hfy]at this;exact this.mono (λe w' ⟨gx,V,h1,h2,h3⟩=>⟨gx,V,h1,Qq h2,h3⟩)
 have GZ:=zi (tR 0);have CG:Hid (∀ls ms:List (List UInt8),ls=vX fx n (3*bk)->ms=vX fy n (3*bk)->Q6 ls ms/\Q6 ls ls/\ls.length=3*bk/\ms.length=3*bk/\Pl.cK (fI ls) bk=Pl.cK (fI ms) bk/\∃x y,Pl.dG (fI ls) (fI ms) bk=some (x,y)/\x≠y/\Pl.iZ x=Pl.iZ y):=λls ms h1 h2=>
  @Zz hIB sc.data.toList h a n bk aaR zo zo zo ls ms (by rw[h1,<-hfx];rfl) (by rw[h2,<-hfy];rfl)
 have dM:1<=bk/\bk<=4:=zo;have qd:=akP;have Rn:decide ((bk:Int)<1)=false:=aH zo;have Gt:¬(bk:Int)<1:=zo;unfold Az at GZ;clear hn hm hh hhm ha aaR aks hfx hfy hE yT hcc IQ hIB;go_enter Tryz.func5,Tryz.ntmps5;go_wp2_with fail;refine HX.mono ?_;rintro e w1 ⟨gx,Vx,rfl,aI,vL⟩;obtain⟨PQ,HX1⟩:=dz (HY w1 aI) (And.intro aI vL);clear aI vL;go_wp2_with fail;refine PQ.mono ?_;rintro e w2 ⟨gy,Vy,rfl,bz,RL⟩;have tl:=aaf HX1.1 HX1.2 bz RL ui;have eY:Hid (Below w.heap.size w w2):=HX1.1.trans (bz.mono HX1.1.size);have HL2:Hid (Lp (λ_=>False) w.heap.size gx gy n 0 0 Vx Vy fx fy (.slice none 0 0) (.slice none 0 0) w2):=⟨⟨_,_,tl,(λg hg=>by cases hg),(λg hg=>by cases hg),(λg hg=>hg.elim)⟩,OL.nil _ _,OL.nil _ _,(λg hg=>by cases hg),(λg hg=>by cases hg),(λg hg=>by cases hg)⟩;clear bz RL tl PQ;have HDX:=zi (HL2.aef (zA mV) jM hx);go_wp2_with fail;refine HDX.mono ?_;rintro e w3 ⟨rfl,rN,FC⟩;obtain⟨sx,Gn⟩:=ze (wX x);rw[Gn];obtain⟨g11,w4,apG,qz,cj,B4⟩:=zE w3 26 [.int .i64 (bk:Nat),.string sx];have HL4:=zi (rN.aa cj);have ib:Hid (Below w.heap.size w w4):=(FC.aa eY (ai _)).trans (cj.mono (FC.aa eY (ai _)).size);have HDY:=HL4.swap.aef (zA mV) jM hy;rw[Gn]at HDY;have HDY:=zi HDY;clear rN FC cj HDX;go_wp2_with fail;refine HDY.mono ?_;rintro e w5 ⟨rfl,hl5,FY⟩;obtain⟨g13,w6,apX,nC,nW,B6⟩:=zE w5 26 [.int .i64 (bk:Nat),.string sx];have HL6:=zi (hl5.swap.aa nW);have h5:=FY.aa ib (ai _);have zv:Hid (Below w.heap.size w w6):=h5.trans (nW.mono h5.size);have B46:=(FY.aC B4 zj).aa nW (FY.aC B4 zj).lt;have k0:=B46.cell 0;have k1:=B46.cell 1;have l0:=B6.cell 0;have l1:=B6.cell 1;simp only[au,aL]at k0 k1 l0 l1;have y1:w6.cell? ⟨gy,1,none⟩=some (.pointer (some ⟨Vy.gD,0,none⟩)):=HL6.swap.cell;clear hl5 FY nW B6 h5 HDY;have HVE:Hid (∀(es:Nat->Prop) (W:World),Lp es w.heap.size gx gy n 0 0 Vx Vy fx fy (.slice none 0 0) (.slice none 0 0) W->bG 23 #[.pointer (some ⟨Vy.gD,0,none⟩),.int .i64 (bk:Nat),.string sx] W λe w'=>e= .returned (.agg #[.int .i64 0,.string ⟨#[]⟩,.bool true])/\Lp es w.heap.size gx gy n 0 0 Vx Vy fx fy (.slice none 0 0) (.slice none 0 0) w'/\Fr2 w.heap.size W w'):=λes W hW=>by have:=hW.swap.verify (zA mV) jM hy;rw[Gn]at this;exact this.mono (λe w' ⟨h1,h2,h3⟩=>⟨h1,h2.swap,h3⟩)
 have HDC:Hid (∀(es:Nat->Prop) (W:World),Lp es w.heap.size gx gy n 0 0 Vx Vy fx fy (.slice none 0 0) (.slice none 0 0) W->ay W g11 26 [.int .i64 (bk:Nat),.string sx]->W.cell? ⟨gy,1,none⟩=some (.pointer (some ⟨Vy.gD,0,none⟩))/\W.cell? ⟨g11,0,none⟩=some (.int .i64 (bk:Nat))/\W.cell? ⟨g11,1,none⟩=some (.string sx)):=λes W hW hB=>⟨hW.swap.cell,hB.cell 0,hB.cell 1⟩
 go_upto_region 9 with fail
 go_cut [15]from 78 (λs15 wx=>∃be:Nat,s15= .pointer (some ⟨be,0,none⟩)/\Hid (ay wx be 32 [.int .i64 0,.string ⟨#[]⟩,.bool true])/\Hid (Lp (λ_=>False) w.heap.size gx gy n 0 0 Vx Vy fx fy (.slice none 0 0) (.slice none 0 0) wx)/\Hid (Below w.heap.size w wx)/\Hid (ay wx g11 26 [.int .i64 (bk:Nat),.string sx]))
 case first=>
  obtain⟨ajY,aht⟩:=dz (HL6.aa (ak w6.heap.size w6).drew) (B46.aa (ak w6.heap.size w6).drew B46.lt);have agS:Hid (Below w.heap.size w w6.drew):=zv.drew;refine aN 10 (λ_=>True) (λW=>W.cell? ⟨gy,1,none⟩=some (.pointer (some ⟨Vy.gD,0,none⟩))/\W.cell? ⟨g11,0,none⟩=some (.int .i64 (bk:Nat))/\W.cell? ⟨g11,1,none⟩=some (.string sx)) zp trivial (HDC _ _ ajY aht) (λaz=>?_);refine zt 0 (h:=zt 1 (h:=zt 2 (h:=zt 3 (h:=zt 4 (h:=zt 5 (h:=zt 6 (h:=zt 7 (h:=?_))))))));(try simp only[Act.put,zq1,zq2,zP,zq4,zq5,RR]);refine j6 (rs:=[8,9]) zp zu ?_;refine kX.cons (o:=_) rfl (λK hK=>?_) (kX.cons (o:=_) rfl (λK hK=>?_) kX.nil)
  ·go_simp;refine(HVE _ _ ajY).mono ?_;rintro e wa ⟨rfl,hla,hfa⟩;have HGA:=zi (hfa.aC aht zj);have Am:Hid (Below w.heap.size w wa):=hfa.aa agS (ai _);clear hfa;go_wp2_with fail;refine hK.out _ _ ⟨λ_=>trivial,HDC _ _ hla HGA⟩ (λaz=>?_);clear hK K;(try simp only[Act.put,zq1,zq2,zP,zq4,zq5,RR]);obtain⟨wb,p9⟩:=ze (World.alloc wa (.cells #[.int .i64 0,.string ⟨#[]⟩,.bool false] 32));obtain⟨be,ja⟩:=ze (Array.size (World.heap wa));have ajr:Below wa.heap.size wa wb:=by rw[<-p9];exact ij _ _
   have BE:Hid (ay wb be 32 [.int .i64 0,.string ⟨#[]⟩,.bool false]):=by rw[Hid,<-p9,<-ja];exact ay.new wa 32 _
   obtain⟨HLB,HGB⟩:=dz (hla.aa ajr) (HGA.aa ajr HGA.lt);refine zr 9 λK hK=>?_;go_simp;(try rw[p9]);(try rw[ja]);refine hK.out _ _ ⟨λ_=>trivial,HDC _ _ HLB HGB⟩ (λaz=>?_);clear hK K;(try simp only[Act.put,zq1,zq2,zP,zq4,zq5,RR]);obtain⟨y0,y1',y2,z0,z1,z2⟩:=dD BE;have xC:Hid (∀a b c,Below wa.heap.size wa (((wb.setCell ⟨be,0,none⟩ a).setCell ⟨be,1,none⟩ b).setCell ⟨be,2,none⟩ c)):=λa b c=>ju ajr (gF ja) a b c;have D3:Hid (∀a b c,(λW:World=>W.cell? ⟨gy,1,none⟩=some (.pointer (some ⟨Vy.gD,0,none⟩))/\W.cell? ⟨g11,0,none⟩=some (.int .i64 (bk:Nat))/\W.cell? ⟨g11,1,none⟩=some (.string sx)) (((wb.setCell ⟨be,0,none⟩ a).setCell ⟨be,1,none⟩ b).setCell ⟨be,2,none⟩ c)):=λa b c=>
    HDC _ _ (hla.aa (xC a b c)) (HGA.aa (xC a b c) HGA.lt)
   refine zr 10 λK hK=>?_;go_simp;refine hK.out _ _ ⟨λ_=>trivial,D3 _ _ _⟩ (λaz=>?_);clear hK K;(try simp only[Act.put,zq1,zq2,zP,zq4,zq5,RR]);refine bh zp ?_ _;clear az;go_wp2_with fail;go_meet
   case rel=>exact⟨be,rfl,BE.Nj _ _ _,hla.aa (xC _ _ _),Am.trans ((xC _ _ _).mono Am.size),HGA.aa (xC _ _ _) HGA.lt⟩
  ·obtain⟨wa,EH⟩:=ze (World.alloc w6.drew (.cells #[.int .i64 0,.string ⟨#[]⟩,.bool false] 32));obtain⟨be,ja⟩:=ze (Array.size (World.heap w6.drew));have yH:Below w6.drew.heap.size w6.drew wa:=by rw[<-EH];exact ij _ _
   have BE:Hid (ay wa be 32 [.int .i64 0,.string ⟨#[]⟩,.bool false]):=by rw[Hid,<-EH,<-ja];exact ay.new w6.drew 32 _
   have HLA:Hid (Lp (·=be) w.heap.size gx gy n 0 0 Vx Vy fx fy (.slice none 0 0) (.slice none 0 0) wa):=ajY.apart yH (gF ja) BE.lt;have HGA:=zi (aht.aa yH aht.lt);have Am:Hid (Below w.heap.size w wa):=agS.trans (yH.mono agS.size);have HLE:Hid (w.heap.size<=be):=by rw[Hid,<-ja];exact agS.size
   clear yH;go_simp;(try rw[EH]);(try rw[ja]);refine hK.out _ _ ⟨λ_=>trivial,HDC _ _ HLA HGA⟩ (λaz=>?_);clear hK K;refine zr 8 λK hK=>?_;go_simp;refine(HVE _ wa HLA).mono ?_;rintro e wb ⟨rfl,XM,G0⟩;have HGB:=zi (G0.aC HGA zj);have BEB:Hid (ay wb be 32 [.int .i64 0,.string ⟨#[]⟩,.bool false]):=G0.aC BE zj;have rK:Hid (Below w.heap.size w wb):=G0.aa Am (ai _);clear G0;go_wp2_with fail;refine hK.out _ _ ⟨λ_=>trivial,HDC _ _ XM HGB⟩ (λaz=>?_);clear hK K;(try simp only[Act.put,zq1,zq2,zP,zq4,zq5,RR]);obtain⟨y0,y1',y2,z0,z1,z2⟩:=dD BEB;have HOW:Hid (∀a b c,ag (·=be) wb (((wb.setCell ⟨be,0,none⟩ a).setCell ⟨be,1,none⟩ b).setCell ⟨be,2,none⟩ c)):=λa b c=>(RO BEB a b c).1;have HGW:Hid (∀a b c,ay (((wb.setCell ⟨be,0,none⟩ a).setCell ⟨be,1,none⟩ b).setCell ⟨be,2,none⟩ c) g11 26 [.int .i64 (bk:Nat),.string sx]):=λa b c=>(HOW a b c).cY (aD BEB) HGB zj;have D3:Hid (∀a b c,(λW:World=>W.cell? ⟨gy,1,none⟩=some (.pointer (some ⟨Vy.gD,0,none⟩))/\W.cell? ⟨g11,0,none⟩=some (.int .i64 (bk:Nat))/\W.cell? ⟨g11,1,none⟩=some (.string sx)) (((wb.setCell ⟨be,0,none⟩ a).setCell ⟨be,1,none⟩ b).setCell ⟨be,2,none⟩ c)):=λa b c=>
    HDC _ _ (XM.wrote BEB (HOW a b c)) (HGW a b c)
   refine zr 10 λK hK=>?_;go_simp;refine hK.out _ _ ⟨λ_=>trivial,D3 _ _ _⟩ (λaz=>?_);clear hK K;(try simp only[Act.put,zq1,zq2,zP,zq4,zq5,RR]);refine bh zp ?_ _;clear az;go_wp2_with fail;go_meet
   case rel=>exact⟨be,rfl,(RO BEB _ _ _).2,(XM.wrote BEB (HOW _ _ _)).clear,rK.trans ((HOW _ _ _).cW rK.size (λk hk e=>by subst e;exact absurd hk (gJ.2 HLE))),HGW _ _ _⟩
 case rest=>
  obtain⟨be0,rfl,aky,HLX,Mj,Rk⟩:=hcut;obtain⟨wx,Vq,aky,HLX,Mj,Rk⟩:∃z,z=wc/\Hid (ay z be0 32 [.int .i64 0,.string ⟨#[]⟩,.bool true])/\Hid (Lp (λ_=>False) w.heap.size gx gy n 0 0 Vx Vy fx fy (.slice none 0 0) (.slice none 0 0) z)/\Hid (Below w.heap.size w z)/\Hid (ay z g11 26 [.int .i64 (bk:Nat),.string sx]):=⟨wc,rfl,aky,HLX,Mj,Rk⟩;subst Vq;clear k0 k1 l0 l1 y1 nC qz apG apX;obtain⟨y0,y1,y2,_,_,_⟩:=dD aky;obtain⟨b3,bg⟩:=ze (3*bk);have fX:IntKind.i64.wrap (3*(bk:Int))=(b3:Int):=by rw[show 3*(bk:Int)=(b3:Int) by omega];exact aY _ zo
  have atN:b3<=n+1:=zA jM;have atF:b3<=12:=zo;obtain⟨j0,hj0,Yd,XQ,RL⟩:=bV Tryz.oI;have HI:=zi (sS hj0 Yd XQ RL);clear hj0 Yd XQ RL;go_wp2_with fail;refine(GZ _).mono ?_;rintro e w7 ⟨rfl,yM⟩;obtain⟨HL7,HG7⟩:=dz (HLX.aa yM) (Rk.aa yM Rk.lt);have HB7:Hid (Below w.heap.size w w7):=Mj.trans (yM.mono Mj.size);clear y0 y1 y2 yM;go_wp2_with fail
  go_loopw [17,18,19] (λvp vq i wr=>∃j m:Nat,j<=b3/\i= .int .i64 (m:Int)/\Hid (m=j+1)/\Hid (Lp (λ_=>False) w.heap.size gx gy n j j Vx Vy fx fy vp vq wr)/\Hid (Below w.heap.size w wr)/\Hid (ay wr g11 26 [.int .i64 (bk:Nat),.string sx])) (λ_ _ i _=>b3+1-(intOf i).toNat)
  case atStart=>exact⟨0,1,aM _,rfl,rfl,HL7,HB7,HG7⟩
  case round=>
   obtain⟨j,m,hj,rfl,HM,HLr,Pv,HGr⟩:=hrel;have d0:=HGr.cell 0;simp only[au]at d0;by_cases hjb:j<b3
   ·have EN:=HM.out;have q1:(m:Int)<=(b3:Int):=zo;have q2:decide ((m:Int)<=(b3:Int))=true:=aQ q1;have St:=HLr.tx (zA mV) (m:=j) zo;rw[<-EN]at St;unfold aU wN at St;have St:=zi St;obtain⟨P,hP⟩:=ze (Pl.bj (Pl.ed (Pl.om fx n) j));have hPs:=hpx j zo;rw[hP]at St hPs;obtain⟨lp,hlp⟩:=ze P.length;rw[hlp]at St hPs;have Xx:=zi (And.intro hP hlp);have xb:wr.cell? ⟨gx,1,none⟩=some (.pointer (some ⟨Vx.gD,0,none⟩)):=HLr.cell;clear hP hlp EN;go_wp2_with fail;refine St.mono ?_;rintro e w8 ⟨A,aB,rfl,t1,t2,t3,t4⟩;obtain⟨w9,En⟩:=ze (w8.alloc (.cells #[.int .i64 0,.string ⟨#[]⟩,.bool true] 32));obtain⟨e21,apY⟩:=ze w8.heap.size;have qA:=zb En;have HE9:Hid (ay w9 e21 32 [.int .i64 0,.string ⟨#[]⟩,.bool true]):=by rw[Hid,<-En,<-apY];exact ay.new w8 32 _
    obtain⟨HL9,HT9⟩:=dz (t3.aa qA) (t2.bQ qA);have B8:Below w.heap.size w w8:=t4.aa Pv (ai _);have Py:Hid (Below w.heap.size w w9):=B8.trans (qA.mono B8.size);have G8:=t4.aC HGr zj;have HG9:=zi (G8.aa qA G8.lt);have HCA:Hid (lp<=aB):=by rw[Hid];have:=Xx.2;omega
    have HTY:=HL9.swap.tx (zA mV) (m:=j) zo;rw[<-HM.out]at HTY;unfold aU wN at HTY;have HTY:=zi HTY;obtain⟨Q,hQ⟩:=ze (Pl.bj (Pl.ed (Pl.om fy n) j));have hQs:=hpy j zo;rw[hQ]at HTY hQs;obtain⟨lq,hlq⟩:=ze Q.length;rw[hlq]at HTY hQs;have HQQ:=zi (And.intro hQ hlq);have yb:w9.cell? ⟨gy,1,none⟩=some (.pointer (some ⟨Vy.gD,0,none⟩)):=HL9.swap.cell;clear t1 t2 t3 t4 qA B8 G8 hQ hlq xb d0;go_wp2_with fail;refine HTY.mono ?_;rintro e pZ ⟨A2,fC,rfl,t1,t2,t3,t4⟩;obtain⟨Et,IL⟩:=ze (pZ.alloc (.cells #[.int .i64 0,.string ⟨#[]⟩,.bool true] 32));obtain⟨e23,aqj⟩:=ze pZ.heap.size;have oJ:=zb IL;have afe:Hid (ay Et e23 32 [.int .i64 0,.string ⟨#[]⟩,.bool true]):=by rw[Hid,<-IL,<-aqj];exact ay.new pZ 32 _
    obtain⟨aqv,asO,aru⟩:=kt (t3.swap.aa oJ) ((t4.eo HT9 zj).bQ oJ) (t2.bQ oJ);have B10:Below w.heap.size w pZ:=t4.aa Py (ai _);have aaa:Hid (Below w.heap.size w Et):=B10.trans (oJ.mono B10.size);have G10:=t4.aC HG9 zj;have amM:=zi (G10.aa oJ G10.lt);have E10:=t4.aC HE9 zj;have E11:=E10.aa oJ E10.lt;have HCB:Hid (lq<=fC):=by rw[Hid];have:=HQQ.2;omega
    obtain⟨y0,y1,y2,_,_,_⟩:=dD E11;clear t1 t2 t3 t4 oJ B10 G10 E10 yb;go_wp2_with fail;refine(GZ _).mono ?_;rintro e Dz ⟨rfl,eC⟩;have E12:=afe.aa eC afe.lt;clear y0 y1 y2 E11;obtain⟨y0,y1,y2,_,_,_⟩:=dD E12;go_wp2_with fail;refine(GZ _).mono ?_;rintro e w13 ⟨rfl,jv⟩;have k13:=eC.trans (jv.mono eC.size);obtain⟨PM,apR,mN⟩:=zF w13 (.cells #[.slice A lp aB] 29);have k14:=k13.trans (mN.mono k13.size);have S14:Hid (Src PM (some ⟨w13.heap.size,0,none⟩) [.slice A lp aB]):=Src.dE (t:=29) (by rw[<-apR];exact ay.new w13 29 _);obtain⟨anx,atg,akN⟩:=kt (aqv.aa k14) (aru.bQ k14) (amM.aa k14 amM.lt);have afv:Hid (Below w.heap.size w PM):=aaa.trans (k14.mono aaa.size);have aoH:=zi anx.p;have R14:Hid (PE PM (λb=>0<=b/\b<PM.heap.size/\u17.ownBlock≠some b) [.slice A lp aB] P):=by have ht:=asO.bQ k14;refine⟨A,aB,by rw[Xx.2],by rw[Xx.2];exact HCA,by rw[Xx.2];omega,ht,λp hp=>⟨aM _,jh.lt2 (ht.2 p hp),λe=>?_⟩⟩;obtain⟨cs,h1,_⟩:=aoH.out;exact absurd ((dc h1 e).dv (ht.2 p hp)) zj
    have HLN:Hid ((vX fx n j).length<=4294967296):=by rw[Hid,sJ fx zo];omega
    clear y0 y1 y2 E12 jv k13 mN k14;go_wp2_with (first
     |(at_builtin
       refine oW (v:=u17) alF rfl (.tmp 124) (.tmp 126) 57 rfl Tryz.underlying57 HI.1 HI.2.1 HI.2.2.1 HI.2.2.2 rfl zj rfl aoH (some ⟨w13.heap.size,0,none⟩) 1 [.slice A lp aB] P rfl rfl S14 (by simp;rfl) R14 HLN zj (aM _) ?_;intro v5 Vh o5 m5;have kF:TL Vh 0 v5 (vX fx n (j+1)):=by rw[Mp fx zo,Xx.1];exact o5
       obtain⟨l15,f15⟩:=anx.more kF m5;obtain⟨Ys,afN,aed⟩:=zF Vh (.cells #[.slice A2 lq fC] 29);have S16:Hid (Src Ys (some ⟨Vh.heap.size,0,none⟩) [.slice A2 lq fC]):=Src.dE (t:=29) (by rw[<-afN];exact ay.new Vh 29 _);have ans:=zi (l15.aa aed);have B15:Below w.heap.size w Vh:=f15.aa afv (ai _);have apF:Hid (Below w.heap.size w Ys):=B15.trans (aed.mono B15.size);have G15:=f15.aC akN zj;obtain⟨arH,amZ⟩:=dz (G15.aa aed G15.lt) ans.q;have R16:Hid (PE Ys (λb=>0<=b/\b<Ys.heap.size/\u18.ownBlock≠some b) [.slice A2 lq fC] Q):=by have ht:=(f15.eo atg zj).bQ aed;refine⟨A2,fC,by rw[HQQ.2],by rw[HQQ.2];exact HCB,by rw[HQQ.2];omega,ht,λp hp=>⟨aM _,jh.lt2 (ht.2 p hp),λe=>?_⟩⟩;obtain⟨cs,h1,_⟩:=amZ.out;exact absurd ((dc h1 e).dv (ht.2 p hp)) zj
       have apN:Hid ((vX fy n j).length<=4294967296):=by rw[Hid,sJ fy zo];omega
       clear o5 m5 kF l15 f15 aed B15 G15)
     |(at_builtin
       refine oW (v:=u18) alF rfl (.tmp 128) (.tmp 130) 57 rfl Tryz.underlying57 HI.1 HI.2.1 HI.2.2.1 HI.2.2.2 rfl zj rfl amZ (some ⟨Vh.heap.size,0,none⟩) 1 [.slice A2 lq fC] Q rfl rfl S16 (by simp;rfl) R16 apN zj (aM _) ?_;intro v6 w17 o6 m6;have jV:TL w17 0 v6 (vX fy n (j+1)):=by rw[Mp fy zo,HQQ.1];exact o6
       obtain⟨l17,f17⟩:=ans.swap.more jV m6;have arf:=zi l17.swap;have arR:Hid (Below w.heap.size w w17):=f17.aa apF (ai _);have apv:=zi (f17.aC arH zj);clear o6 m6 jV l17 f17)
     |fail)
    exact⟨⟨j+1,m+1,zo,zu,by show _=_;have:=HM.out;omega,arf.out,arR.out,apv.out⟩,by simp[intOf];have:=HM.out;omega⟩
   ·obtain rfl:j=b3:=zo;have EN:=HM.out;have q1:¬(m:Int)<=(j:Int):=zo;have q2:decide ((m:Int)<=(j:Int))=false:=aH q1;clear EN;obtain⟨A,cp,rfl,XH,FK⟩:=HLr.p.br;obtain⟨A2,cq,rfl,hcq,yj⟩:=HLr.q.br;have hlx:(vX fx n j).length=j:=sJ fx zo;have hly:(vX fy n j).length=j:=sJ fy zo;obtain⟨ls,Pd⟩:=ze (vX fx n j);obtain⟨ms,hms⟩:=ze (vX fy n j);obtain⟨c1,c2,c3,c4,c5,X,Y,c6,c7,c8⟩:=CG ls ms (by rw[<-Pd,bg]) (by rw[<-hms,bg]);rw[Pd]at hlx XH FK|-
    rw[hms]at hly hcq yj|-
    rw[hlx]at XH|-
    rw[hly]at hcq|-
    have HC1:=zi (xq j j ls ms A A2 cp cq wr (hG.aa Pv) FK yj hlx hly zo zo XH hcq);have HC2:Hid (∀W,Below wr.heap.size wr W->bG 24 #[.slice A j cp,.slice A j cp] W (Jr W ls ls)):=λW hW=>by have hb:BR W (·<W.heap.size) A ls:=(FK.Ee hW (λ_ h=>h)).mono (λb hb=>aK hb hW.size);exact xq j j ls ls A A cp cp W (hG.aa (Pv.trans (hW.mono Pv.size))) hb hb hlx hlx zo zo XH XH
    have HCC:=zi (ze7 c1 c2 c3 c5 c6 c7 c8);clear hlx hly Pd hms c1 c2 c3 c4 c5 c6 c7 c8 XH FK hcq yj;go_wp2_with fail;refine HC1.mono ?_;rintro e w8 ⟨av,bv,k,rfl,yS,Ep⟩;obtain⟨rfl,⟨b1,o1,n1,cp1,rfl,g2,g3,g4,g5,g6⟩,⟨b2,o2,n2,cp2,rfl,k2,k3,k4,k5,k6⟩⟩:=yS.found HCC.1 HCC.2.2.1 HCC.2.2.2.1 HCC.2.2.2.2.1;obtain⟨e28,w9,atY,En,qA,E9⟩:=zE w8 32 [.int .i64 0,.string ⟨#[]⟩,.bool true];have Py:Hid (Below wr.heap.size wr w9):=Ep.trans (qA.mono Ep.size);have HXY:Hid (aw w9 (some ⟨b1,o1,none⟩) X/\aw w9 (some ⟨b2,o2,none⟩) Y):=⟨g6.bQ qA,k6.bQ qA⟩;have HXL:Hid (X.length=n1/\Y.length=n2/\n1<=140737488351232/\n2<=140737488351232):=⟨g2,k2,g4,k4⟩;obtain⟨y0,y1,y2,_,_,_⟩:=dD E9;unfold Az;clear yS Ep g2 g3 g4 g5 g6 k2 k3 k4 k5 k6 qA E9 d0;go_wp2_with fail;refine(GZ _).mono ?_;rintro e pZ ⟨rfl,UJ⟩;have Jg:Hid (Below wr.heap.size wr pZ):=Py.trans (UJ.mono Py.size);have HXZ:Hid (aw pZ (some ⟨b1,o1,none⟩) X/\aw pZ (some ⟨b2,o2,none⟩) Y):=⟨HXY.1.bQ UJ,HXY.2.bQ UJ⟩;have HC3:=zi (HC2 pZ Jg);clear y0 y1 y2 UJ;go_wp2_with fail;refine HC3.mono ?_;rintro e Et ⟨av,bv,k,rfl,yS,oJ⟩;obtain⟨rfl,rfl,rfl⟩:=yS.same HCC.2.1;obtain⟨Dz,ZJ⟩:=ze (Et.alloc (.cells #[.int .i64 21,.string ⟨#[]⟩,.bool true] 32));obtain⟨e31,ari⟩:=ze Et.heap.size;have eC:=zb ZJ;have agW:Hid (ay Dz e31 32 [.int .i64 21,.string ⟨#[]⟩,.bool true]):=by rw[Hid,<-ZJ,<-ari];exact ay.new Et 32 _
    have aoX:Hid (Below wr.heap.size wr Dz):=Jg.trans ((oJ.trans (eC.mono oJ.size)).mono Jg.size);have alm:aw Dz (some ⟨b1,o1,none⟩) X:=(HXZ.1.bQ oJ).bQ eC;have ajq:aw Dz (some ⟨b2,o2,none⟩) Y:=(HXZ.2.bQ oJ).bQ eC;have hcx:=dQ Dz (some ⟨b1,o1,none⟩) X cp1 alm;have hcy:=dQ Dz (some ⟨b2,o2,none⟩) Y cp2 ajq;have hne:=qU X Y;rw[show(X==Y)=false by simpa using HCC.2.2.2.2.2.1]at hne;have ahy:=zi (DX (some ⟨b1,o1,none⟩) cp1 X Dz alm (zA HXL.out));have ald:Hid (∀W,Below Dz.heap.size Dz W->bG 25 #[.slice (some ⟨b2,o2,none⟩) Y.length cp2] W λe w'=>e= .returned (.string (wX (Pl.iZ X)))/\Below W.heap.size W w'):=λW hW=>by rw[HCC.2.2.2.2.2.2];exact DX (some ⟨b2,o2,none⟩) cp2 Y W (ajq.bQ hW) (zA HXL.out)
    rw[HXL.1]at hcx ahy;rw[HXL.2.1]at hcy ald;obtain⟨sX,hsX⟩:=ze (ar X);obtain⟨sY,hsY⟩:=ze (ar Y);rw[hsX]at hcx hne;rw[hsY]at hcy hne;obtain⟨sm,hsm⟩:=ze (wX (Pl.iZ X));have ahy:Hid (bG 25 #[.slice (some ⟨b1,o1,none⟩) n1 cp1] Dz λe w'=>e= .returned (.string sm)/\Below Dz.heap.size Dz w'):=by rw[<-hsm];exact ahy
    rw[hsm]at ald;have apn:∀(W:World) (a:Option Addr) (n c:Nat),(binOp .eql 29 (.slice a n c) (.slice none 0 0)).run Tryz.prog W= .ok (.bool a.isNone) W:=λW a n c=>Lib.run_eql_slice_nil W 29 5 a n c 0 0 Tryz.underlying29;have q:=C8;unfold Az;clear yS oJ eC alm ajq hsX hsY hsm;go_wp2_with fail;refine ahy.mono ?_;rintro e w13 ⟨rfl,jv⟩;have alo:=zi (ald w13 jv);go_wp2_with fail;refine alo.mono ?_;rintro e PM ⟨rfl,mN⟩;have afv:=zi (jv.trans (mN.mono jv.size));have E14:=agW.aa afv agW.lt;obtain⟨y0,y1,y2,_,_,_⟩:=dD E14;have HQ:Hid (Below w.heap.size w PM):=(Pv.trans ((aoX.trans (afv.mono aoX.size)).mono Pv.size));clear mN E14;go_wp2_with fail;go_ret;exact⟨zu,HQ⟩
end Go.Proofs.YtbhpofdafhahgaaGreatDoor
