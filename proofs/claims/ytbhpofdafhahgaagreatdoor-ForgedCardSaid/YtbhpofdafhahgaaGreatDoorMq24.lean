/- Part 24: DyG DyH DyI DyJ DyK DyL DyM DyN DyO. -/
import Derived.Test.YtbhpofdafhahgaaGreatDoorMq23
set_option linter.all false
set_option maxHeartbeats 8000000
set_option maxRecDepth 100000
namespace Go.Proofs.YtbhpofdafhahgaaGreatDoor
open Go.RowKit Go.Maps Go.WideMaps
variable [Inhabited eH]
variable {w w':World} {P F:Nat->Prop} {c:List Value} {o:Pl.jb} {S:iM} {aA g2 jX gK gM gt:Nat} {ps:List Pl.Pr} {os:List Pl.jb} {b:Pl.Bs} {e:Ending} {d:Pl.Dk} {x:Pl.fh}
variable (V:ia) (st:Int) (op:Value) (ms:List (Nat×List Pl.Pr)) (n go B:Nat) (l:List UInt8) (time:Int) (p:List UInt8) (A:Option Addr)
def Eo(w:World)(P:Nat->Prop)(c:List Value)(o:Pl.jb):Prop:=
 ∃Ac cc Ar cr,c=[.int .i64 (o.kind:Nat),.string (ar o.table),.slice Ac o.aZ.length cc,.slice Ar o.row.length cr]/\o.aZ.length<=cc/\o.row.length<=cr/\
  dn w Ac (mq o.aZ) 121/\dn w Ar (vcs o.row) 88/\(∀p,Ac=some p->P p.block)/\∀p,Ar=some p->P p.block
theorem Eo.fr:Fr Eo:=λ_ _ _ _ _ _ _ ⟨Ac,cc,Ar,cr,h1,h2,h3,h4,h5,h6,h7⟩ ho hF hP=>
 ⟨Ac,cc,Ar,cr,h1,h2,h3,h4.jL ho zS,h5.jL ho zS,zS,zS⟩
theorem Eo.r(h:Eo w P c o):OP w P c o:=by obtain⟨Ac,cc,Ar,cr,h1,h2,h3,h4,h5,h6,h7⟩:=h;exact⟨Ac,cc,Ar,cr,h1,h2,h3,h4.1,h5.1,h6,h7⟩
def opT:List TypeId:=[121,88,216,166]
theorem Eo.frame{P':Nat->Prop}(h:Eo w P c o)(ho:ag F w w')(hF:∀k t,F k->jh w k t->t∉opT)(hP:∀k,P k->P' k):Eo w' P' c o:=by obtain⟨Ac,cc,Ar,cr,h1,h2,h3,h4,h5,h6,h7⟩:=h;exact⟨Ac,cc,Ar,cr,h1,h2,h3,h4.jL ho (λp hp hf=>hF _ _ hf (h4.2 p hp) zj),h5.jL ho (λp hp hf=>hF _ _ hf (h5.2 p hp) zj),zS,zS⟩
theorem Eo.sf(hS:eP S aA)(h:Eo w P c o)(hf:SF S w w')(hA:S.At ps w):Eo w' P c o:=by obtain⟨Ac,cc,Ar,cr,h1,h2,h3,h4,h5,h6,h7⟩:=h;exact⟨Ac,cc,Ar,cr,h1,h2,h3,SF.eo hS hf hA h4 zj,SF.eo hS hf hA h5 zj,h6,h7⟩
abbrev IG:=OL 216 4 Eo
theorem IG.frame{w w':World}{aq:Nat}{v:Value}{os:List Pl.jb}{F:Nat->Prop}(h:IG w aq v os)(ho:ag F w w')(hF:∀k t,F k->jh w k t->t∉opT):IG w' aq v os:=by obtain⟨cs,h1,h2⟩:=h;exact⟨cs,ud ho h1 (λk hk ht=>hF k _ hk ht zj),h2.mono (λ_ _ _ h=>h.frame ho hF (λk hk=>⟨hk.1,aK hk.2.1 ho.size,hk.2.2⟩))⟩
def gW(r g2 jX:Nat)(os:List Pl.jb)(w:World):Prop:=
 ∃v,ay w go 166 [.int .i64 time,v,dJ r,.map (some g2),.int .i64 (jX:Nat)]/\IG w B v os/\go<B/\B<=w.heap.size/\LO<=go
theorem gW.frame{go B r g2 jX:Nat}{time:Int}{os:List Pl.jb}{w w':World}{F:Nat->Prop}(h:gW go B time r g2 jX os w)(ho:ag F w w')(hF:∀k t,F k->jh w k t->t∉opT):gW go B time r g2 jX os w':=by obtain⟨v,h1,h2,h3,h4,h5⟩:=h;exact⟨v,ho.aC h1 (λhk=>hF go _ hk h1.dV zj),h2.frame ho hF,h3,ao h4 ho.size,h5⟩
theorem lW.YK{ts:List TypeId}{bs:Nat->Prop}(h:lW ts bs w w')(tz:List TypeId)(ht:∀t∈tz,t∉ts)(hb:∀k t,bs k->jh w k t->t∉tz):∃F,ag F w w'/\∀k t,F k->jh w k t->t∉tz:=by
 obtain⟨F,h1,h2⟩:=h;refine⟨F,h1,λk t hk mr=>?_⟩;rcases h2 k hk with⟨t',e1,e2⟩|e
 ·rw[mr.dv e2]
  grind
 grind
theorem gW.aa{go B r:Nat}{time:Int}(h:gW go B time r g2 jX os w)(hb:dP w w'):gW go B time r g2 jX os w':=h.frame (ag.ae hb (λ_=>False)) zu
def LJ:List TypeId:=Sb++nG++ [144,203,245,166,216]
def lV(gM:Nat)(w w':World):Prop:=lW LJ (λk=>k=gM) w w'/\Gl w w'
theorem lV.trans{gM:Nat}{a b c:World}(h:lV gM a b)(k:lV gM b c):lV gM a c:=⟨h.1.trans k.1,h.2.aE k.2⟩
theorem lV.ae{gM:Nat}{w w':World}(h:dP w w'):lV gM w w':=⟨.ae h,ag.ae h _⟩
theorem lV.lJ{gM:Nat}{w w':World}{F:Nat->Prop}{ts:List TypeId}(h:ag F w w')(hk:bR F w ts)(ht:∀t∈ts,t∈LJ)(hz:∀k,F k->Zn k):lV gM w w':=
 ⟨(lW.lJ h hk).mono ht (λ_ h=>h),h.mono zS⟩
theorem lV.YR(hS:∀k,¬S.bs k)(hB:eX S gK gM gt b w)(h:LD S (ZV gK gM gt b.tb) w w'):lV gM w w':=by
 obtain⟨F,h1,h2⟩:=h.1;refine⟨⟨F,h1,λk hk=>?_⟩,h.2.1⟩;rcases h2 k hk with⟨t',e1,e2⟩|e
 ·exact .inl ⟨t',by simp[LJ,e1],e2⟩
 ·rcases e with e|e|e|⟨e1,e2⟩
  ·grind
  ·exact .inl ⟨203,by simp[LJ],e▸hB.aC.dV⟩
  ·omega
  ·have h1:=hB.tq;cases kI:b.tb with
   |none=>grind
   |some t'=>rw[kI]at h1;obtain⟨_,⟨Ac,cc,h2,_⟩,_⟩:=h1;exact .inl ⟨245,by simp[LJ],e2▸h2.dV⟩
def doT:List TypeId:=36::opT
theorem Ik(hS:∀k,¬S.bs k)(hB:eX S gK gM gt b w)(h:LD S (ZV gK gM gt b.tb) w w'):∃F,ag F w w'/\∀k t,F k->jh w k t->t∉doT:=
 h.1.YK doT zj (λk t hk mr=>by
  rcases hk with hk|hk
  ·grind
  ·rcases hB.ani k t hk mr with e|e<;>rw[e]<;>decide)
def DoQ(r g2 jX:Nat)(os:List Pl.jb)(o:Pl.jb)(w:World)(e:Ending)(w':World):Prop:=
 e= .returned .nilIface/\lV V.gM w w'/\∃nA,cU (V.put (Pl.aul V.b o).2 nA) st (aU go) ms w'/\gW go B time r g2 jX (os++ [o]) w'
theorem ahc(r g2 jX:Nat)(os:List Pl.jb)(g0 g1:Nat)(c:List Value)(o:Pl.jb)(w:World)(h:cU V 1 (aU go) ms w)(hop:gW go B time r g2 jX os w)(h0:ay w g0 36 [aU V.gD])(h1:ay w g1 216 c)
 (hR:Eo w (λk=>B<=k/\k<w.heap.size) c o) (YN:os.length<16) (hY:pW V.aA V.b o) (kj:V.b.count<1000000000) (hv:∀v,ay w go 166 [.int .i64 time,v,dJ r,.map (some g2),.int .i64 (jX:Nat)]->v.ownBlock≠some g1):
 bG 196 #[.pointer (some ⟨g0,0,none⟩),.pointer (some ⟨g1,0,none⟩)] w (DoQ V 1 ms go B time r g2 jX os o w):=by
 obtain⟨i0,yW,nQ,kK,mY⟩:=bV Tryz.acY;have HI:=sS yW nQ kK mY;obtain⟨v,hgo,Us,hgB,hBs,TJ⟩:=id hop;have HVG:=hv v hgo;have y0:=cA h0;have hB:=h.core.aC;obtain⟨gD,iJ⟩:=ze V.gD;obtain⟨Ac,cc,Ar,cr,rfl,_⟩:=id hR;obtain⟨x0,x1,x2,x3,_⟩:=eh h1;have d4:w.cell? ⟨V.gD,4,none⟩=some (.pointer (some ⟨V.gK,0,none⟩)):=hB.cell 4;have d5:w.cell? ⟨V.gD,5,none⟩=some (.pointer (some ⟨go,0,none⟩)):=hB.cell 5;have o1:=hgo.cell 1;simp only[au,aL]at o1;obtain⟨A,aB,_,WO,_⟩:=OL.src Eo.fr Us;obtain⟨n,hn⟩:=ze os.length;rw[WO,hn]at o1;unfold aU at y0;rw[iJ]at y0 d4 d5;have hwd:Below w.heap.size w w.drew:=⟨rfl,rfl,rfl,ai _,λ_ _=>rfl⟩;have XI:=I7 (dS V.E V.js ms V.aA) V.gK V.gM V.gt V.b (λk=>B<=k/\k<w.heap.size) _ o w.drew (h.book.aa (dS _ _ _ _) hwd) (h.ctx.aa hwd) hY (λW hW=>((hR.frame (ag.ae hwd (λ_=>False)) (λ_ _ h=>h.elim) (λ_ h=>h)).sf (dS _ _ _ _) hW (h.book.aa (dS _ _ _ _) hwd).fv).r) (λk hk=>hk.2) kj;have HX:=And.intro h (And.intro hop (And.intro h0 (And.intro h1 (And.intro hR (ze9 iJ WO hn hwd hgo Us hgB hBs TJ)))));have adt:n<16:=zo;have q1:¬(16:Int)<=(n:Int):=zo;go_enter Tryz.func196,Tryz.ntmps196
 go_upto_region 5 with fail
 refine aN 5 (λ_=>True) (λW=>W.cell? ⟨g0,0,none⟩=some (.pointer (some ⟨gD,0,none⟩))/\W.cell? ⟨gD,4,none⟩=some (.pointer (some ⟨V.gK,0,none⟩))/\W.cell? ⟨g1,0,none⟩=some (.int .i64 (o.kind:Nat))/\W.cell? ⟨g1,1,none⟩=some (.string (ar o.table))/\W.cell? ⟨g1,2,none⟩=some (.slice Ac o.aZ.length cc)/\W.cell? ⟨g1,3,none⟩=some (.slice Ar o.row.length cr)) zp trivial ⟨y0,d4,x0,x1,x2,x3⟩ (λaz=>?_);refine zt 0 (h:=zt 1 (h:=zt 2 (h:=zt 3 (h:=zt 4 (h:=?_)))));refine zr 5 λK hK=>?_;go_simp;unfold aU at XI;refine XI.mono ?_;rintro e w2 Yg;obtain⟨h,hop,h0,h1,hR,iJ,WO,hn,hwd,hgo,Us,hgB,hBs,TJ⟩:=id HX;have nE:=h.aa hwd;obtain⟨rfl,nA,D2,f2⟩:=nE.adF Yg;obtain⟨F,fw,hF2⟩:=Ik (λ_ h=>h) nE.book f2;have JS:gW go B time r g2 jX os w2:=(hop.aa hwd).frame fw (λk t hk mr hm=>hF2 k t hk mr (kd _ hm));have I5:=(hR.frame (ag.ae hwd (λ_=>False)) (λ_ _ h=>h.elim) (λ_ h=>h)).frame fw (λk t hk mr hm=>hF2 k t hk mr (kd _ hm)) (P':=λk=>B<=k/\k<w.heap.size) (λ_ h=>h);have h02:ay w2 g0 36 [aU V.gD]:=fw.aC (h0.aa hwd h0.lt) (λhk=>hF2 _ _ hk (h0.aa hwd h0.lt).dV zj);have h12:ay w2 g1 216 [.int .i64 (o.kind:Nat),.string (ar o.table),.slice Ac o.aZ.length cc,.slice Ar o.row.length cr]:=fw.aC (h1.aa hwd h1.lt) (λhk=>hF2 _ _ hk (h1.aa hwd h1.lt).dV zj);have hdf:lV V.gM w w2:=(lV.ae hwd).trans (lV.YR (λ_ h=>h) nE.book f2);have hno:∀k t,F k->jh w.drew k t->t∉opT:=λk t hk mr hm=>hF2 k t hk mr (kd _ hm);have wS:ay w2 go 166 [.int .i64 time,v,dJ r,.map (some g2),.int .i64 (jX:Nat)]:=fw.aC (hgo.aa hwd hgo.lt) (λhk=>hno _ _ hk (hgo.aa hwd hgo.lt).dV zj);have agr:IG w2 B v os:=IG.frame (OL.aa Eo.fr Us hwd) fw hno;have adT:B<=w2.heap.size:=ao hBs (ao hwd.size fw.size);have z0:=cA h02;obtain⟨z1,z2,z3,z4,_⟩:=eh h12;have z5:w2.cell? ⟨V.gD,5,none⟩=some (.pointer (some ⟨go,0,none⟩)):=D2.core.aC.cell 5;have z6:w2.cell? ⟨V.gD,4,none⟩=some (.pointer (some ⟨V.gK,0,none⟩)):=D2.core.aC.cell 4;have z7:=wS.cell 1;have f7:=wS.frozen 1;simp only[au,aL]at z7;unfold aU at z0;rw[iJ]at z0 z5 z6;rw[WO,hn]at z7;have HI1:=th 5 w2;have HY:=And.intro D2 (And.intro JS (ze9 I5 h12 hdf agr wS hgB adT h02 TJ));have Kb:=ze6 z0 z6 z1 z2 z3 z4;go_wp2_with fail;refine hK.out _ _ ⟨λ_=>trivial,Kb⟩ (λaz=>?_);refine zt 6 (h:=?_);(try simp only[Act.put,zq1,zq2,zP,zq4,zq5,RR]);refine bh zp ?_ _;go_wp2_with fail;refine HI1.mono ?_;rintro e w3 ⟨rfl,rfl⟩
 go_upto_region 9 with fail
 refine aN 18 (λW=>W.cell? ⟨go,1,none⟩=some (.slice A n aB)) (λW=>W.cell? ⟨g0,0,none⟩=some (.pointer (some ⟨gD,0,none⟩))/\W.cell? ⟨gD,5,none⟩=some (.pointer (some ⟨go,0,none⟩))/\W.cell? ⟨g1,0,none⟩=some (.int .i64 (o.kind:Nat))/\W.cell? ⟨g1,1,none⟩=some (.string (ar o.table))/\W.cell? ⟨g1,2,none⟩=some (.slice Ac o.aZ.length cc)/\W.cell? ⟨g1,3,none⟩=some (.slice Ar o.row.length cr)) zp z7 ⟨z0,z5,z1,z2,z3,z4⟩ (λaz=>?_);refine zt 0 (h:=zt 1 (h:=zt 2 (h:=zt 3 (h:=zt 4 (h:=zt 5 (h:=zt 6 (h:=zt 7 (h:=zt 8 (h:=zt 9 (h:=zt 10 (h:=zl 11 (h:=zt 12 (h:=?_)))))))))))));refine zr 13 λK hK=>?_;go_simp;obtain⟨D2,JS,I5,h12,hdf,agr,wS,hgB,adT,h02,TJ⟩:=id HY;obtain⟨w3,fX⟩:=ze ((w2.alloc (.cells #[.int .i64 (o.kind:Nat),.string (ar o.table),.slice Ac o.aZ.length cc,.slice Ar o.row.length cr] 216)).drew);have bg:Below w2.heap.size w2 w3:=by rw[<-fX];exact(ij w2 _).drew
 have S3:Src w3 (some ⟨w2.heap.size,0,none⟩) [.int .i64 (o.kind:Nat),.string (ar o.table),.slice Ac o.aZ.length cc,.slice Ar o.row.length cr]:=Src.dE (t:=216) (by rw[<-fX];exact ay.new w2 216 _);have hRR:(Eo w3 (λb=>B<=b/\b<w3.heap.size/\v.ownBlock≠some b) [.int .i64 (o.kind:Nat),.string (ar o.table),.slice Ac o.aZ.length cc,.slice Ar o.row.length cr] o):=by
  obtain⟨Ac',cc',Ar',cr',e1,e2,e3,e4,e5,e6,e7⟩:=I5.frame (ag.ae bg (λ_=>False)) (λ_ _ h=>h.elim) (P':=λk=>B<=k/\k<w.heap.size) (λ_ h=>h);obtain⟨cs2,bI,_⟩:=OL.aa Eo.fr agr bg;refine⟨Ac',cc',Ar',cr',e1,e2,e3,e4,e5,λp hp=>⟨(e6 p hp).1,jh.lt_ (e4.2 p hp),λhv=>?_⟩,λp hp=>⟨(e7 p hp).1,jh.lt_ (e5.2 p hp),λhv=>?_⟩⟩
  ·exact absurd ((e4.2 p hp).dv (dc bI hv)) zj
  ·exact absurd ((e5.2 p hp).dv (dc bI hv)) zj
 have ev:v= .slice A n aB:=by rw[WO,hn]
 rw[ev]at hRR;have apW:gD<w2.heap.size:=by rw[<-iJ];exact D2.core.aC.lt
 have hDD:∀W,Below w2.heap.size w2 W->W.cell? ⟨g0,0,none⟩=some (.pointer (some ⟨gD,0,none⟩))/\W.cell? ⟨gD,5,none⟩=some (.pointer (some ⟨go,0,none⟩))/\W.cell? ⟨go,1,none⟩=some (.slice A n aB)/\W.cell? ⟨g1,0,none⟩=some (.int .i64 (o.kind:Nat))/\W.cell? ⟨g1,1,none⟩=some (.string (ar o.table))/\W.cell? ⟨g1,2,none⟩=some (.slice Ac o.aZ.length cc)/\W.cell? ⟨g1,3,none⟩=some (.slice Ar o.row.length cr):=λW hW=>by obtain⟨u1,u2,u3,u4,_⟩:=eh (h12.aa hW h12.lt);exact⟨(hW.cell (p:=⟨g0,0,none⟩) h02.lt).trans z0,(hW.cell (p:=⟨gD,5,none⟩) apW).trans z5,(hW.cell (p:=⟨go,1,none⟩) wS.lt).trans z7,u1,u2,u3,u4⟩
 have OV:IG w3 B (.slice A n aB) os:=by rw[<-hn,<-WO];exact OL.aa Eo.fr agr bg
 have Je:=S3;have eI:=bg;have xz:=hDD w3 bg;rw[fX];refine hK.out _ _ ⟨λ_=>xz.2.2.1,xz.1,xz.2.1,xz.2.2.2⟩ (λaz=>?_);refine zr 14 λK hK=>?_;refine YT Eo.fr rfl (.tmp 45) (.tmp 47) 145 rfl Tryz.underlying145 HI.1 HI.2.1 HI.2.2.1 HI.2.2.2 rfl zj rfl OV (some ⟨w2.heap.size,0,none⟩) 1 [.int .i64 (o.kind:Nat),.string (ar o.table),.slice Ac o.aZ.length cc,.slice Ar o.row.length cr] o rfl rfl Je (by intro u hu;simp at hu;rcases hu with rfl|rfl|rfl|rfl<;>rfl) (hRR) zo zj (ao adT eI.size) ?_;intro v4 w4 o4 m4;obtain⟨A4,c4,_,Fh,_⟩:=OL.src Eo.fr o4;obtain⟨n4,hn4⟩:=ze ((os++ [o]).length);rw[hn4]at Fh;subst Fh;have B4:Below B w3 w4:=m4.only.cW (ao adT eI.size) (λk hk e=>by have:=(OV.lt k e).1;omega);have ZG:w4.cell? ⟨g0,0,none⟩=some (.pointer (some ⟨gD,0,none⟩))/\w4.cell? ⟨gD,5,none⟩=some (.pointer (some ⟨go,0,none⟩))/\w4.cell? ⟨go,1,none⟩=some (.slice A n aB)/\w4.cell? ⟨g1,0,none⟩=some (.int .i64 (o.kind:Nat))/\w4.cell? ⟨g1,1,none⟩=some (.string (ar o.table))/\w4.cell? ⟨g1,2,none⟩=some (.slice Ac o.aZ.length cc)/\w4.cell? ⟨g1,3,none⟩=some (.slice Ar o.row.length cr):=by
  have hnt:∀k t,jh w3 k t->t≠216->¬(Value.slice A n aB).ownBlock=some k:=λk t ht hne e=>by obtain⟨cs2,bI,_⟩:=OV;exact hne (ht.dv (dc bI e))
  have hc:∀k t i,jh w3 k t->t≠216->w4.cell? ⟨k,i,none⟩=w3.cell? ⟨k,i,none⟩:=λk t i ht hne=>by have hlt:=jh.lt_ ht;exact World.cell?_of_block (m4.only.block k hlt (hnt k t ht hne))
  obtain⟨u1,u2,u3,u4,u5,u6,u7⟩:=id xz;have t0:jh w3 g0 36:=(h02.aa bg h02.lt).dV;have t1:jh w3 gD 144:=by rw[<-iJ];exact(D2.core.aC.aa bg D2.core.aC.lt).dV
  have t2:jh w3 go 166:=(wS.aa bg wS.lt).dV;have t3:=h12.aa bg h12.lt;have b3:ay w4 g1 216 [.int .i64 (o.kind:Nat),.string (ar o.table),.slice Ac o.aZ.length cc,.slice Ar o.row.length cr]:=m4.only.aC t3 (λe=>HVG (by rw[ev];exact e));obtain⟨k1,k2,k3,k4,_⟩:=eh b3;exact⟨(hc g0 _ 0 t0 zj).trans u1,(hc gD _ 5 t1 zj).trans u2,(hc go _ 1 t2 zj).trans u3,k1,k2,k3,k4⟩
 have HD5:((w4.setCell ⟨go,1,none⟩ (.slice A4 n4 c4)).cell? ⟨g0,0,none⟩=some (.pointer (some ⟨gD,0,none⟩))/\(w4.setCell ⟨go,1,none⟩ (.slice A4 n4 c4)).cell? ⟨gD,5,none⟩=some (.pointer (some ⟨go,0,none⟩))/\(w4.setCell ⟨go,1,none⟩ (.slice A4 n4 c4)).cell? ⟨g1,0,none⟩=some (.int .i64 (o.kind:Nat))/\(w4.setCell ⟨go,1,none⟩ (.slice A4 n4 c4)).cell? ⟨g1,1,none⟩=some (.string (ar o.table))/\(w4.setCell ⟨go,1,none⟩ (.slice A4 n4 c4)).cell? ⟨g1,2,none⟩=some (.slice Ac o.aZ.length cc)/\(w4.setCell ⟨go,1,none⟩ (.slice A4 n4 c4)).cell? ⟨g1,3,none⟩=some (.slice Ar o.row.length cr)):=by
  have n1:g0≠go:=λe=>absurd ((e▸h02.dV).dv wS.dV) zj;have n2:gD≠go:=λe=>by
   have t1:jh w2 gD 144:=by rw[<-iJ];exact D2.core.aC.dV
   exact absurd ((e▸t1).dv wS.dV) zj
  have n3:g1≠go:=λe=>absurd ((e▸h12.dV).dv wS.dV) zj;have mK:∀k i,k≠go->(w4.setCell ⟨go,1,none⟩ (.slice A4 n4 c4)).cell? ⟨k,i,none⟩=w4.cell? ⟨k,i,none⟩:=λk i hk=>Cv _ ⟨go,1,none⟩ ⟨k,i,none⟩ _ (λe=>hk (congrArg Addr.block e).symm);obtain⟨u1,u2,_,u4,u5,u6,u7⟩:=ZG;exact⟨(mK _ _ n1).trans u1,(mK _ _ n2).trans u2,(mK _ _ n3).trans u4,(mK _ _ n3).trans u5,(mK _ _ n3).trans u6,(mK _ _ n3).trans u7⟩
 have afM:ay w4 go 166 [.int .i64 time,v,dJ r,.map (some g2),.int .i64 (jX:Nat)]:=(wS.aa bg wS.lt).aa B4 hgB;have f4:w4.frozen? ⟨go,1,none⟩=false:=afM.frozen 1;have o1:=ZG.2.2.1;have HQ:(DoQ V 1 ms go B time r g2 jX os o w (.returned .nilIface) (w4.setCell ⟨go,1,none⟩ (.slice A4 n4 c4))):=by
  obtain⟨cs3,kW,_⟩:=id OV;have Mw:bR (λk=>(Value.slice A n aB).ownBlock=some k) w3 [216]:=MM kW;have hz3:∀k,(Value.slice A n aB).ownBlock=some k->Zn k:=λk hk=> .inl (zA ((OV.lt k hk).1));have hzo:∀k,k=go->Zn k:=λk hk=>hk▸ .inl TJ;have hoS:ag (·=go) w4 (w4.setCell ⟨go,1,none⟩ (.slice A4 n4 c4)):=(ag.refl (·=go) w4).zs 1;have D4:=((D2.aa bg).bQ m4.only Mw zj hz3);refine⟨rfl,((hdf.trans (.ae bg)).trans (.lJ m4.only Mw zj hz3)).trans (.lJ hoS (aD afM) zj hzo),nA,D4.bQ hoS (aD afM) zj hzo,_,afM.bw 1 _,?_,hgB,?_,TJ⟩
  ·have:=OL.only Eo.fr o4 hoS (λx hx _ e=>by omega);exact this
  ·exact ao adT (ao bg.size (ao m4.only.size hoS.size))
 refine hK.out _ _ ⟨λ_=>ZG.2.2.1,ZG.1,ZG.2.1,ZG.2.2.2⟩ (λaz=>?_);refine zt 15 (h:=zt 16 (h:=zt 17 (h:=?_)));refine zr 18 λK hK=>?_;go_simp;refine hK.out _ _ ⟨zk zp,HD5⟩ (λaz=>?_);(try simp only[Act.put,zq1,zq2,zP,zq4,zq5,RR]);refine bh zp ?_ _;go_wp2_with fail;go_ret;exact HQ
theorem mC{V:ia}{st:Int}{op:Value}{ms:List (Nat×List Pl.Pr)}(h:cU V st op ms w)(ho:ag (·=V.gD) w w'):lV V.gM w w':=
 .lJ ho (aD h.core.aC) zj (λk hk=>hk▸h.core.zn.1)
theorem gW.lock{go B r:Nat}{time:Int}{V:ia}{st:Int}{op:Value}{ms:List (Nat×List Pl.Pr)}(h:gW go B time r g2 jX os w)(hd:cU V st op ms w)(ho:ag (·=V.gD) w w'):gW go B time r g2 jX os w':=
 h.frame ho (λk t hk mr=>by subst hk;rw[mr.dv hd.core.aC.dV];decide)
theorem Sq(r g2 jX:Nat)(os:List Pl.jb)(c:List Value)(o:Pl.jb)(w:World)(h:cU V 0 (aU go) ms w)(hop:gW go B time r g2 jX os w)
 (hR:Eo w (λk=>B<=k/\k<w.heap.size) c o) (YN:os.length<16) (hY:pW V.aA V.b o) (kj:V.b.count<1000000000):
 bG 144 #[aU V.gD,.agg c.toArray] w (DoQ V 0 ms go B time r g2 jX os o w):=by
 obtain⟨Ac,cc,Ar,cr,rfl,_⟩:=id hR;obtain⟨w1,dj⟩:=ze (w.alloc (.cells #[aU V.gD] 36));obtain⟨w2,iA⟩:=ze (w1.alloc (.cells #[.int .i64 (o.kind:Nat),.string (ar o.table),.slice Ac o.aZ.length cc,.slice Ar o.row.length cr] 216));obtain⟨g0,jz⟩:=ze w.heap.size;have aI:=zb dj;have bz:=zb iA;have ma:w1.heap.size=g0+1:=by rw[<-dj,<-jz];simp
 have B1:=zB dj jz;have B2:ay w2 (g0+1) 216 [.int .i64 (o.kind:Nat),.string (ar o.table),.slice Ac o.aZ.length cc,.slice Ar o.row.length cr]:=by rw[<-iA,<-ma];exact ay.new w1 216 _
 have LS:=B1.aa bz B1.lt;have dM:=aI.trans (bz.mono aI.size);have h2:=h.aa dM;have c0:=cA LS;have iJ:V.gD<g0:=by rw[<-jz];exact h.core.aC.lt
 obtain⟨v,hgo,Us,hgB,hBs,TJ⟩:=id hop;have HC:=(oE V ms (aU go) 196 #[.pointer (some ⟨g0,0,none⟩),.pointer (some ⟨g0+1,0,none⟩)] (λW err w'=>DoQ V 1 ms go B time r g2 jX os o W (.returned err) w') w2 h2 (λW=>by simp[go_sem]) (λW hd hW ho=>by
  have b1:ay W g0 36 [aU V.gD]:=ho.aC LS (λe=>by omega);have b2:ay W (g0+1) 216 _:=ho.aC B2 (λe=>by omega);have hof:∀k t,k=V.gD->jh w2 k t->t∉opT:=λk t hk mr=>by subst hk;rw[mr.dv h2.core.aC.dV];decide
  have aqG:=(hop.aa dM).lock h2 ho;have hRW:=(hR.frame (ag.ae dM (λ_=>False)) (λ_ _ h=>h.elim) (P':=λk=>B<=k/\k<w.heap.size) (λ_ h=>h)).frame ho hof (P':=λk=>B<=k/\k<W.heap.size) (λk hk=>⟨hk.1,aK hk.2 (ao dM.size ho.size)⟩);refine(ahc V ms go B time r g2 jX os g0 (g0+1) _ o W hd aqG b1 b2 hRW YN hY kj (λv' hv' e=>?_)).mono ?_
  ·have h3:ay W go 166 [.int .i64 time,v,dJ r,.map (some g2),.int .i64 (jX:Nat)]:=ho.aC (hgo.aa dM hgo.lt) (λe=>hof go _ e (hgo.aa dM hgo.lt).dV zj);have h4:=h3.dv hv';injection h4 with _ h4;injection h4 with h4 _;subst h4;have:=(OL.lt Us _ e).2;omega
  ·rintro e w' hq;have MF:=hq;obtain⟨rfl,h1,nA,h3,_⟩:=hq;exact⟨.nilIface,_,V.put (Pl.aul V.b o).2 nA,_,rfl,rfl,rfl,rfl,rfl,rfl,h3,MF,λW=>th 3 W⟩))
 have HX:=And.intro dM h2;have e4:(#[.int .i64 (o.kind:Nat),.string (ar o.table),.slice Ac o.aZ.length cc,.slice Ar o.row.length cr]:Array Value)=[Value.int .i64 (o.kind:Nat),.string (ar o.table),.slice Ac o.aZ.length cc,.slice Ar o.row.length cr].toArray:=rfl;unfold aU at dj c0|-
 have JJ:=zf Tryz.prog;go_enter Tryz.func144,Tryz.ntmps144;go_wp2_with fail;refine HC.mono ?_;rintro e w4 ⟨err,w3,W,rfl,hW,hq,rfl⟩;obtain⟨he,h1,nA,h3,h4⟩:=hq;injection he with he;subst he;obtain⟨dM,h2⟩:=id HX;obtain⟨k1,k2⟩:=h2.lock (b:=1);obtain⟨k3,k4⟩:=h3.lock (b:=0);have HQ:(DoQ V 0 ms go B time r g2 jX os o w (.returned .nilIface) (w3.setCell ⟨V.gD,0,none⟩ (.int .i32 0))):=
  ⟨rfl,(((lV.ae dM).trans (mC h2 (hW▸k2))).trans h1).trans (mC (V:=V.put (Pl.aul V.b o).2 nA) h3 k4),nA,k3,h4.lock h3 k4⟩
 go_wp2_with fail;go_ret;exact HQ
theorem abk(row:List Pl.Vl):∀u∈vcs row,u.oneCell'=true:=by intro u hu;obtain⟨c,_,hc⟩:=lQ.1 hu;exact afg c u hc
theorem U6(l:List Pl.Vl)(n ca:Nat)(w:World)(hn:l.length=n)(P8:n<=100)(hs:Src w A (vcs l)):
 bG 145 #[.slice A n ca] w λe w'=>dP w w'/\∃A' c',e= .returned (.slice A' n c')/\n<=c'/\dn w' A' (vcs l) 88/\∀p,A'=some p->w.heap.size<=p.block/\p.block<w'.heap.size:=by
 obtain⟨i0,hi,nQ,kK,mY⟩:=bV Tryz.ME;have HI:=sS hi nQ kK mY;have vH:(0+n<=maxLen):=by simp only[maxLen];omega
 go_enter Tryz.func145,Tryz.ntmps145;go_wp2_with (first
  |(at_builtin
    refine cQ _ rfl (.const (.slice none 0 0)) (.tmp 3) 91 rfl w.heap.size 88 i0 _ 3 32 Tryz.underlying91 HI.1 HI.2.1 HI.2.2.1 HI.2.2.2 rfl zj (.slice none 0 0) 0 [] rfl (dA _ _ _ _) A n ca (vcs l) rfl (by rw[agi,hn]) hs (abk l) vH (I2 zo) (ai _) ?_;intro v2 w2 ee dY Fk;rw[bZ,aX]at ee;obtain⟨A2,fC,rfl,lC,nX,bz⟩:=bJ ee;have HQ:(Below w.heap.size w w2/\n<=fC/\dn w2 A2 (vcs l) 88/\∀p,A2=some p->w.heap.size<=p.block/\p.block<w2.heap.size):=⟨⟨dY.os,dY.tape,dY.output,dY.size,λx hx=>dY.block x hx (λe=>by cases e)⟩,lC,⟨nX,λp hp=>dc ee (bz p hp)⟩,λp hp=>ee.lt _ (bz p hp)⟩;clear ee dY Fk lC nX bz)
  |fail)
 go_ret;exact⟨HQ.1,A2,fC,rfl,HQ.2⟩
theorem DoQ.since{V:ia}{ms:List (Nat×List Pl.Pr)}{go B:Nat}{time:Int}{r:Nat}{w1 w2:World}{st:Int}(h:DoQ V st ms go B time r g2 jX os o w1 e w2)(hb:dP w w1):DoQ V st ms go B time r g2 jX os o w e w2:=
 ⟨h.1,(lV.ae hb).trans h.2.1,h.2.2⟩
theorem Nu(r g2 jX:Nat)(os:List Pl.jb)(nm:List UInt8)(row:List Pl.Vl)(A:Option Addr)(n ca:Nat)(w:World)(h:cU V 0 (aU go) ms w)(hop:gW go B time r g2 jX os w)
 (hn:row.length=n) (P8:n<=100) (hs:Src w A (vcs row)) (YN:os.length<16) (hY:pW V.aA V.b ⟨2,nm,[],row⟩) (kj:V.b.count<1000000000):
 bG 88 #[aU V.gD,.string (ar nm),.slice A n ca] w (DoQ V 0 ms go B time r g2 jX os ⟨2,nm,[],row⟩ w):=by
 have HC:=U6 A row n ca w hn P8 hs;have HX:=sS h hop hY kj;unfold aU;go_enter Tryz.func88,Tryz.ntmps88;go_wp2_with fail;refine HC.mono ?_;rintro e w1 ⟨aI,A1,c1,rfl,rX,TN,l7⟩;obtain⟨h,hop,hY,kj⟩:=id HX;have hB:B<=w.heap.size:=by obtain⟨v,_,_,_,h1,_⟩:=hop;exact h1
 have hR:Eo w1 (λk=>B<=k/\k<w1.heap.size) [.int .i64 ((2:Nat):Int),.string (ar nm),.slice none 0 0,.slice A1 n c1] ⟨2,nm,[],row⟩:=
  ⟨none,0,A1,c1,by rw[show(⟨2,nm,[],row⟩:Pl.jb).row.length=n from hn];rfl,aM _,by rw[show(⟨2,nm,[],row⟩:Pl.jb).row.length=n from hn];exact rX,⟨.inl rfl,λp hp=>by cases hp⟩,TN,(λp hp=>by cases hp),λp hp=>⟨ao hB (l7 p hp).1,(l7 p hp).2⟩⟩
 have XI:=(Sq V ms go B time r g2 jX os _ _ w1 (h.aa aI) (hop.aa aI) hR YN hY kj);unfold aU at XI;go_wp2_with fail;refine XI.mono ?_;rintro e w2 hq;obtain⟨he,_⟩:=id hq;subst he;have HQ:=hq.since aI;go_wp2_with fail;go_ret;exact HQ
theorem Nz(r g2 jX:Nat)(os:List Pl.jb)(nm:List UInt8)(aZ:List Pl.Cl)(A:Option Addr)(n ca:Nat)(w:World)(h:cU V 0 (aU go) ms w)(hop:gW go B time r g2 jX os w)
 (hn:aZ.length=n) (P8:n<=100) (hs:Src w A (mq aZ)) (YN:os.length<16) (hY:pW V.aA V.b ⟨1,nm,aZ,[]⟩) (kj:V.b.count<1000000000):
 bG 110 #[aU V.gD,.string (ar nm),.slice A n ca] w (DoQ V 0 ms go B time r g2 jX os ⟨1,nm,aZ,[]⟩ w):=by
 obtain⟨i0,hi,nQ,kK,mY⟩:=bV Tryz.Cx;have HI:=sS hi nQ kK mY;have vH:(0+n<=maxLen):=by simp only[maxLen];omega
 have HX:=sS h hop hY kj;unfold aU;go_enter Tryz.func110,Tryz.ntmps110;go_wp2_with (first
  |(at_builtin
    refine cQ _ rfl (.const (.slice none 0 0)) (.tmp 9) 122 rfl w.heap.size 121 i0 _ 2 24 Tryz.underlying122 HI.1 HI.2.1 HI.2.2.1 HI.2.2.2 rfl zj (.slice none 0 0) 0 [] rfl (dA _ _ _ _) A n ca (mq aZ) rfl (by rw[Fu,hn]) hs (Ly aZ) vH (rE zo) (ai _) ?_;intro v2 w1 ee dY Fk;rw[bZ,aX]at ee;obtain⟨A1,c1,rfl,lC,nX,bz⟩:=bJ ee;have HQ1:(Below w.heap.size w w1/\n<=c1/\dn w1 A1 (mq aZ) 121/\∀p,A1=some p->w.heap.size<=p.block/\p.block<w1.heap.size):=⟨⟨dY.os,dY.tape,dY.output,dY.size,λx hx=>dY.block x hx (λe=>by cases e)⟩,lC,⟨nX,λp hp=>dc ee (bz p hp)⟩,λp hp=>ee.lt _ (bz p hp)⟩;clear ee dY Fk lC nX bz)
  |fail)
 obtain⟨h,hop,hY,kj⟩:=id HX;obtain⟨aI,rX,TN,l7⟩:=id HQ1;have hB:B<=w.heap.size:=by obtain⟨v,_,_,_,h1,_⟩:=hop;exact h1
 have hR:Eo w1 (λk=>B<=k/\k<w1.heap.size) [.int .i64 ((1:Nat):Int),.string (ar nm),.slice A1 n c1,.slice none 0 0] ⟨1,nm,aZ,[]⟩:=
  ⟨A1,c1,none,0,by rw[show(⟨1,nm,aZ,[]⟩:Pl.jb).aZ.length=n from hn];rfl,by rw[show(⟨1,nm,aZ,[]⟩:Pl.jb).aZ.length=n from hn];exact rX,aM _,TN,⟨.inl rfl,λp hp=>by cases hp⟩,λp hp=>⟨ao hB (l7 p hp).1,(l7 p hp).2⟩,λp hp=>by cases hp⟩
 have XI:=(Sq V ms go B time r g2 jX os _ _ w1 (h.aa aI) (hop.aa aI) hR YN hY kj);unfold aU at XI;refine XI.mono ?_;rintro e w2 hq;obtain⟨he,_⟩:=id hq;subst he;have HQ:=hq.since aI;go_wp2_with fail;go_ret;exact HQ
theorem N7(h:d.aW<0)(c:Pl.Ch):(d.change c).aW=d.aW:=by
 unfold Pl.Dk.change Pl.Dk.tick
 grind
theorem kU(h:d.aW<0):d.alive=true:=aQ (.inl h)
theorem VJ(d:Pl.Dk)(c:Pl.Ch):(d.change c).aV.length=d.aV.length:=by
 unfold Pl.Dk.change Pl.Dk.tick;split
 ·cases c<;>simp[Pl.Ch.on]
 ·rfl
theorem DL:∀(l:List Pl.Ch) (d:Pl.Dk) (h:d.aW<0) (k:Nat) (hk:∀c∈l,∀i t,c= .wr i t->i≠k),(d.run l).2=true/\(d.run l).1.look k=d.look k/\(d.run l).1.aW=d.aW/\(d.run l).1.aV.length=d.aV.length
 | [],d,_,_,_=>⟨rfl,rfl,rfl,rfl⟩
 |c::l,d,h,k,hk=>by
  rw[Pl.Dk.iW,ah (kU h)];have h1:=N7 h c;obtain⟨e1,e2,e3,e4⟩:=DL l (d.change c) zo k zw;refine⟨e1,e2.trans ?_,zo,e4.trans (VJ d c)⟩;cases c with
  |wr i t=>exact ri d i k t zw
  |sy=>exact mX d k
def ia.log(va:Value)(vs:List Value)(l:Pl.Lg)(d:Pl.Dk):ia:={V with va:=va,vs:=vs,l:=l,E:=V.E.on d}
theorem cU.Ez{V:ia}{st:Int}{op:Value}{ms:List (Nat×List Pl.Pr)}{w w':World}{rd cO:Int}{d':Pl.Dk}{l':Pl.Lg}{iw:Value}{gj:List Value}(h:cU V st op ms w)(Qa:aJ w V.E.m.g V.E.vD V.E.d rd)(hst:dB w' V.gl V.E.m.g V.E.vD iw gj d' cO l')(yN:Sep w V.va iw)(ho:ag (uq V.gl V.E.m.g V.E.vD V.va) w w')
 (bU:d'.aV.length=V.E.d.aV.length) (sB:∀j,d'.look (V.E.m.first+j)=V.E.d.look (V.E.m.first+j)) (me:d'.aW≠0):cU (V.log iw gj l' d') st op ms w'/\lV V.gM w w':=by
 have hk:bR (uq V.gl V.E.m.g V.E.vD V.va) w nG:=dB.kinds (rd:=rd) ⟨Qa,h.core.log,h.core.rows⟩;have afc:V.E.m.first+V.E.m.n<=V.E.d.aV.length:=by obtain⟨rd,G,r,ht⟩:=h.book.fv;exact ht.tw.aA
 refine⟨⟨⟨ho.cY hk h.core.aC zj,hst.cells,hst.rows,h.core.zn.1,λk uk=>?_⟩,h.book.Ez ho hk hst.gq zo sB me,h.ctx.gl (ho.mono (λk _ hk=>h.core.zn.2 k hk))⟩,.lJ ho hk zj h.core.zn.2⟩;rcases uk with uk|uk
 ·exact h.core.zn.2 k (.inl uk)
 ·rcases yN k uk with e|e
  ·exact h.core.zn.2 k (.inr e)
  ·exact .inl (ao h.ctx.lo e)
theorem Du{p:List UInt8}(h:p.length<=240):Pl.pieces p=[(false,p)]:=by rw[Pl.pieces,dif_pos h]
theorem NI{V:ia}{p:List UInt8}(h1:1<=p.length)(h2:p.length<=240)(hb:V.l.bad=false)(hf:V.l.next<V.l.data)(hd:V.E.d.aW<0)(hl:V.l.first+2+V.l.data<=V.E.m.first):
 ∃d',V.l.append V.E.d p=({V.l with next:=V.l.next+1,all:=V.l.all++ [p]},d',0)/\d'.aW=V.E.d.aW/\d'.aV.length=V.E.d.aV.length/\∀j,d'.look (V.E.m.first+j)=V.E.d.look (V.E.m.first+j):=by
 have hc:Pl.chunks p.length=1:=by unfold Pl.chunks;omega
 have hr:=λk hk=>DL (V.l.laid V.l.next (Pl.pieces p)) V.E.d hd k hk;rw[Du h2]at hr;have yX:∀k,V.E.m.first<=k->∀c∈V.l.laid V.l.next [(false,p)],∀i t,c= .wr i t->i≠k:=λk hk c hc i t e=>by
  simp[Pl.Lg.laid,Pl.Lg.dm]at hc
  grind
 obtain⟨e1,_,e3,e4⟩:=hr V.E.m.first zw;refine⟨(V.E.d.run (V.l.laid V.l.next [(false,p)])).1,?_,e3,e4,λj=>zw⟩;unfold Pl.Lg.append;rw[aj zo,aj zo,hb,aj zj,Du h2,hc];cases hq:V.E.d.run (V.l.laid V.l.next [(false,p)])with
 |mk d' ok=>
  grind
def ajC(w:World)(e:Ending)(w':World):Prop:=
 e= .returned .nilIface/\∃iw gj d',cU (V.log iw gj {V.l with next:=V.l.next+1,all:=V.l.all++ [p]} d') st op ms w'/\lV V.gM w w'/\(∃F,ag F w w'/\bR F w nG)/\d'.aW=V.E.d.aW/\d'.aV.length=V.E.d.aV.length
theorem Ny(n aB:Nat)(w:World)(h:cU V st op ms w)(hn:p.length=n)(h1:1<=n)(h2:n<=240)(fo:n<=aB)(hp:aw w A p)(hA:∀q,A=some q->q.block<w.heap.size/\¬uq V.gl V.E.m.g V.E.vD V.va q.block)
 (hb:V.l.bad=false) (hf:V.l.next<V.l.data) (hd:V.E.d.aW<0) (hl:V.l.first+2+V.l.data<=V.E.m.first) (fj:V.l.all.length<=5000):
 bG 234 #[aU V.gD,.slice A n aB] w (ajC V st op ms p w):=by
 subst hn;obtain⟨d',ha,e1,e2,e3⟩:=NI (V:=V) h1 h2 hb hf hd hl;obtain⟨rd,Qa⟩:=sO.gq h.book.fv;have hroom:V.E.m.first+V.E.m.n<=V.E.d.aV.length:=by obtain⟨rd,G,r,ht⟩:=h.book.fv;exact ht.tw.aA
 have HA:=NZ V.gl V.E.m.g V.E.vD V.va V.vs V.E.d rd V.l p A aB w ⟨Qa,h.core.log,h.core.rows⟩ hp hA fo zo zo fj;rw[ha]at HA;have HA:=HA;have c2:w.cell? ⟨V.gD,2,none⟩=some (.pointer (some ⟨V.gl,0,none⟩)):=h.core.aC.cell 2;have HX:=ze6 h Qa e1 e2 e3 hd;obtain⟨n,hn⟩:=ze p.length;rw[hn]at HA|-
 unfold aU;go_enter Tryz.func234,Tryz.ntmps234;go_wp2_with fail;refine HA.mono ?_;rintro e w1 ⟨rfl,iw,gj,hst,yN,_,ho⟩;obtain⟨h,Qa,e1,e2,e3,hd⟩:=id HX;have hk:bR (uq V.gl V.E.m.g V.E.vD V.va) w nG:=dB.kinds (rd:=rd) ⟨Qa,h.core.log,h.core.rows⟩;obtain⟨hD1,hF1⟩:=h.Ez Qa hst yN ho e2 e3 (by rw[e1];omega);have HQ:(ajC V st op ms p w (.returned .nilIface) w1):=⟨rfl,iw,gj,d',hD1,hF1,⟨_,ho,hk⟩,e1,e2⟩;have HI:=th 5 w1;rw[show oT 0= .nilIface from rfl];go_wp2_with fail;refine HI.mono ?_;rintro e w2 ⟨rfl,rfl⟩;go_wp2_with fail;go_ret;exact HQ
def asS(w:World)(e:Ending)(w':World):Prop:=
 e= .returned .nilIface/\∃d',cU (V.log V.va V.vs V.l d') st op ms w'/\lV V.gM w w'/\(∃F,ag F w w'/\bR F w nG)/\d'.aW=V.E.d.aW/\d'.aV.length=V.E.d.aV.length
theorem RB(w:World)(h:cU V st op ms w)(hb:V.l.bad=false)(hd:V.E.d.aW<0):
 bG 235 #[aU V.gl] w (asS V st op ms w):=by
 obtain⟨rd,Qa⟩:=sO.gq h.book.fv;have hr:=λk=>DL [.sy] V.E.d hd k zu;obtain⟨e1,_,e3,e4⟩:=hr 0;refine(VU V.gl V.E.m.g V.E.vD V.va V.E.d rd V.l w Qa h.core.log).mono ?_;rintro e w' ⟨rfl,vT,l7,ho⟩;rw[NC V.E.d hb,e1]at vT l7|-
 have hk:bR (uq V.gl V.E.m.g V.E.vD V.va) w nG:=dB.kinds (rd:=rd) ⟨Qa,h.core.log,h.core.rows⟩;have hk0:=CW Qa h.core.log;have ho':ag (uq V.gl V.E.m.g V.E.vD V.va) w w':=ho.mono (λk _ hk=> .inl hk);have BJ:dW w' V.gl V.E.m.g V.va V.l:=by
  have:({V.l with bad:=!true}:Pl.Lg)=V.l:=by cases hq:V.l;grind
  grind
 obtain⟨k1,k2⟩:=h.Ez Qa (iw:=V.va) (gj:=V.vs) (l':=V.l) ⟨vT,BJ,h.core.rows.only ho hk0 zj zj⟩ (Sep.refl _ _) ho' e4 zS zw;exact⟨rfl,_,k1,k2,zw,e3,e4⟩
structure su(V:ia):Prop where
 bad:V.l.bad=false
 fit:V.l.next<V.l.data
 aW:V.E.d.aW<0
 low:V.l.first+2+V.l.data<=V.E.m.first
 few:V.l.all.length<=5000
def aej(r g2 jX:Nat)(os:List Pl.jb)(x:Pl.fh)(w:World)(e:Ending)(w':World):Prop:=
 e= .returned .nilIface/\lV V.gM w w'/\∃nA iw gj l' d',cU ((V.put (Pl.aup V.b x) nA).log iw gj l' d') st (aU go) ms w'/\gW go B time r g2 jX os w'/\(∃p,l'={V.l with next:=V.l.next+1,all:=V.l.all++ [p]})/\d'.aW=V.E.d.aW/\d'.aV.length=V.E.d.aV.length
theorem JT{go B r:Nat}{time:Int}(h:gW go B time r g2 jX os w)(ho:ag F w w')(hk:bR F w nG):gW go B time r g2 jX os w':=
 h.frame ho (λk t hf mr=>by
  obtain⟨t',e1,e2⟩:=hk k hf;rw[mr.dv e2];revert e1;simp only[nG,opT,cV,je,iU]
  grind)
theorem XE(hS:eP S aA){W:World}{B n aB:Nat}{A:Option Addr}(hA:S.At ps w)(hf:SF S w W)(h:IG w B (.slice A n aB) x.ops)(hn:x.ops.length=n):vY W (λk=>k<w.heap.size) [.int .i64 (sig x.time),.slice A n aB] x:=by obtain⟨cs,h1,h2⟩:=h;obtain⟨A',cap',e,hc,hs,hb⟩:=bJ (SF.own hS hf hA h1 zj);injection e with e1 e2 e3;subst e1 e3;subst hn;exact⟨A,aB,cs,rfl,hc,hs,h2.mono (λ_ _ _ ho=>(ho.sf hS hf hA).r.mono zw),λp hp=>(h1.lt _ zw).2⟩
theorem WW(r g2:Nat)(x:Pl.fh)(Q:List Pl.fh)(w:World)(h:cU V 1 (aU go) ms w)(hop:gW go B (sig x.time) r g2 V.b.count x.ops w)
 (gP:Pl.nz x) (hg:Pl.Good Q V.b) (hr:V.b.ps.length+20<=V.aA) (N6:su V) (hp:(Pl.bj x).length<=230) (kj:V.b.count<1000000):
 bG 178 #[aU V.gD] w (aej V 1 ms go B (sig x.time) r g2 V.b.count x.ops x w):=by
 obtain⟨v,hgo,Us,hgB,hBs,TJ⟩:=id hop;obtain⟨A,aB,cs,WO,fo,tX,kD,hA⟩:=OL.src Eo.fr Us;have d4:w.cell? ⟨V.gD,4,none⟩=some (.pointer (some ⟨V.gK,0,none⟩)):=h.core.aC.cell 4;have d5:w.cell? ⟨V.gD,5,none⟩=some (.pointer (some ⟨go,0,none⟩)):=h.core.aC.cell 5;obtain⟨n,hn⟩:=ze x.ops.length;obtain⟨gD,iJ⟩:=ze V.gD;obtain⟨ct,og⟩:=ze V.b.count;obtain⟨tm,htm⟩:=ze (sig x.time);rw[WO,hn,htm]at hgo;rw[iJ]at d4 d5;have o0:=hgo.cell 0;have o1:=hgo.cell 1;have o4:=hgo.cell 4;simp only[au,aL]at o0 o1 o4;rw[og]at o4 kj;have HX:=And.intro h (And.intro hop (And.intro gP (And.intro hg (And.intro hr (ze9 N6 hp hgo Us WO hn htm og iJ)))));have hwd:Below w.heap.size w w.drew:=⟨rfl,rfl,rfl,ai _,λ_ _=>rfl⟩;have hov:IG w B (.slice A n aB) x.ops:=by rw[<-hn,<-WO];exact Us
 have VL:=Rt (dS V.E V.js ms V.aA) V.gK V.gM V.gt V.b Q x (λk=>k<w.drew.heap.size) _ w.drew (h.aa hwd).book (h.aa hwd).ctx hg hr (λW hW=>XE (dS V.E V.js ms V.aA) (h.aa hwd).book.fv hW (OL.aa Eo.fr hov hwd) hn) (λ_ hk=>hk) gP;rw[htm]at VL;have VL:=VL;have HOV:=And.intro hov hwd;obtain⟨cp,XH⟩:=ze (ct+1);have dj:IntKind.i64.wrap ((ct:Int)+1)=(cp:Int):=by rw[aY _ zo];omega
 have iA:IntKind.u64.wrap (cp:Int)=(cp:Int):=by rw[lE];omega
 unfold aU;rw[show V.gD=gD from HX.2.2.2.2.2.2.2.2.2.2.2.2.2];go_enter Tryz.func178,Tryz.ntmps178
 go_upto_region 2 with fail
 refine aN 11 (λ_=>True) (λW=>W.cell? ⟨gD,4,none⟩=some (.pointer (some ⟨V.gK,0,none⟩))/\W.cell? ⟨gD,5,none⟩=some (.pointer (some ⟨go,0,none⟩))/\W.cell? ⟨go,0,none⟩=some (.int .i64 tm)/\W.cell? ⟨go,1,none⟩=some (.slice A n aB)) zp trivial ⟨d4,d5,o0,o1⟩ (λaz=>?_);refine zt 0 (h:=zt 1 (h:=zt 2 (h:=zt 3 (h:=zt 4 (h:=zt 5 (h:=zt 6 (h:=zt 7 (h:=zt 8 (h:=zt 9 (h:=zt 10 (h:=?_)))))))))));refine zr 11 λK hK=>?_;go_simp;unfold aU at VL;refine VL.mono ?_;rintro e w2 Yg;obtain⟨h,hop,gP,hg,hr,N6,hp,hgo,Us,WO,hn,htm,og,iJ⟩:=id HX;obtain⟨hov,hwd⟩:=id HOV;have nE:=h.aa hwd;obtain⟨rfl,nA,D2,f2⟩:=nE.adF Yg;obtain⟨F,fw,hF2⟩:=Ik (λ_ h=>h) nE.book f2;have hno:∀k t,F k->jh w.drew k t->t∉opT:=λk t hk mr hm=>hF2 k t hk mr (kd _ hm);have JS:gW go B (sig x.time) r g2 V.b.count x.ops w2:=(hop.aa hwd).frame fw hno;have wS:ay w2 go 166 [.int .i64 tm,.slice A n aB,dJ r,.map (some g2),.int .i64 (V.b.count:Nat)]:=fw.aC (hgo.aa hwd hgo.lt) (λhk=>hno _ _ hk (hgo.aa hwd hgo.lt).dV zj);have aaI:IG w2 B (.slice A n aB) x.ops:=IG.frame (OL.aa Eo.fr hov hwd) fw hno;have hdf:lV V.gM w w2:=(lV.ae hwd).trans (lV.YR (λ_ h=>h) nE.book f2);have hDD:∀W,Below w2.heap.size w2 W->W.cell? ⟨gD,4,none⟩=some (.pointer (some ⟨V.gK,0,none⟩))/\W.cell? ⟨gD,5,none⟩=some (.pointer (some ⟨go,0,none⟩))/\W.cell? ⟨go,0,none⟩=some (.int .i64 tm)/\W.cell? ⟨go,1,none⟩=some (.slice A n aB):=λW hW=>by have h3:=(D2.aa hW).core.aC;have h4:=wS.aa hW wS.lt;rw[<-iJ];exact⟨h3.cell 4,h3.cell 5,h4.cell 0,h4.cell 1⟩
 have HY:=sS D2 JS aaI hdf;obtain⟨z4,z5,y0,y1⟩:=hDD w2 (ak _ _);go_wp2_with fail;refine hK.out _ _ ⟨λ_=>trivial,hDD w2 (ak _ _)⟩ (λaz=>?_);refine zt 12 (h:=?_);(try simp only[Act.put,zq1,zq2,zP,zq4,zq5,RR]);refine bh zp ?_ _
 go_upto_region 5 with fail
 refine aN 13 (λ_=>True) (λW=>W.cell? ⟨gD,4,none⟩=some (.pointer (some ⟨V.gK,0,none⟩))/\W.cell? ⟨gD,5,none⟩=some (.pointer (some ⟨go,0,none⟩))/\W.cell? ⟨go,0,none⟩=some (.int .i64 tm)/\W.cell? ⟨go,1,none⟩=some (.slice A n aB)) zp trivial ⟨z4,z5,y0,y1⟩ (λaz=>?_);refine zt 0 (h:=zt 1 (h:=zt 2 (h:=zt 4 (h:=zt 5 (h:=zt 6 (h:=zt 7 (h:=zt 8 (h:=zt 9 (h:=zt 10 (h:=?_))))))))));refine zr 3 λK hK=>?_;go_simp;refine(sQ (.slice none 0 0) [] cp 4 w2.heap.size w2.drew (Ob.nil _ _) (ai _) zo zj zj zu).mono ?_;rintro e w3 ⟨v3,rfl,o3,m3⟩;rw[aX]at o3;have b3:Below w2.heap.size w2 w3:=cG (m3.gV (Ob.nil _ _) (ai _));have hPL:bG 223 #[.agg #[.int .i64 tm,.slice A n aB]] w3 (NT w3 (Pl.bj x)):=by obtain⟨h,hop,gP,hg,hr,N6,hp,hgo,Us,WO,hn,htm,og,iJ⟩:=id HX;obtain⟨D2,JS,aaI,hdf⟩:=id HY;have ht:=XE (dS V.E V.js ms V.aA) (D2.aa b3).book.fv (SF.refl w3) (OL.aa Eo.fr aaI b3) hn;rw[htm]at ht;exact zM (λk=>k<w3.heap.size) [.int .i64 tm,.slice A n aB] x w3 ht (λ_ hk=>hk) gP
 have D3:=hDD w3 b3;go_wp2_with fail;refine hK.out _ _ ⟨λ_=>trivial,D3⟩ (λaz=>?_);refine zr 11 λK hK=>?_;go_simp;refine hPL.mono ?_;rintro e w4 ⟨A4,n4,c4,rfl,hn4,hc4,ht4,_,cj⟩;have B4:=b3.trans (cj.mono b3.size);have O4:=o3.aa cj;have F0:=And.intro hn4 ht4;have D4:=hDD w4 B4;go_wp2_with fail;refine hK.out _ _ ⟨λ_=>trivial,D4⟩ (λaz=>?_);refine zr 12 λK hK=>?_;refine Q2 (.tmp 32) (.tmp 40) rfl rfl O4 A4 n4 c4 (Pl.bj x) rfl F0.1 F0.2.bytes.src (by have h1:=HX.2.2.2.2.2.2.1;have h2:=F0.1;rw[Pl.aG];omega) B4.size ?_;intro v5 w5 o5 m5;have B5:Below w2.heap.size w2 w5:=B4.trans (m5.gV O4 B4.size);obtain⟨A5,c5,rfl,La,QH,nB⟩:=bJ o5;obtain⟨n5,hn5⟩:=ze ((Pl.be 4 cp++Pl.bj x).length);have HAP:bG 234 #[aU V.gD,.slice A5 n5 c5] w5 (ajC (V.put (Pl.aup V.b x) nA) 1 (aU go) ms (Pl.be 4 cp++Pl.bj x) w5):=by
  obtain⟨h,hop,gP,hg,hr,N6,hp,hgo,Us,WO,hn,htm,og,iJ⟩:=id HX;obtain⟨D2,JS,aaI,hdf⟩:=id HY;have hl5:n5=4+(Pl.bj x).length:=by rw[<-hn5,ax,Pl.aG]
  refine Ny (V.put (Pl.aup V.b x) nA) 1 (aU go) ms (Pl.be 4 cp++Pl.bj x) A5 n5 c5 w5 (D2.aa B5) hn5 zo zo (by rw[<-hn5];exact La) QH.bytes (λq hq=>⟨(o5.lt _ (nB q hq)).2,λhl=>?_⟩) N6.bad N6.fit N6.aW N6.low N6.few;obtain⟨rd,Qa⟩:=sO.gq D2.book.fv;obtain⟨t,_,ht⟩:=dB.kinds (rd:=rd) ⟨Qa,D2.core.log,D2.core.rows⟩ q.block hl;have:=jh.lt_ ht;have:=(o5.lt _ (nB q hq)).1;omega
 rw[hn5];have HAP:=HAP;have D5:=hDD w5 B5;unfold aU at HAP;rw[show V.gD=gD from HX.2.2.2.2.2.2.2.2.2.2.2.2.2]at HAP;refine hK.out _ _ ⟨λ_=>trivial,D5⟩ (λaz=>?_);refine zr 13 λK hK=>?_;go_simp;refine HAP.mono ?_;rintro e w6 ⟨rfl,iw,gj,d',D6,f6,⟨F6,jV,hk6⟩,rJ,hln⟩;obtain⟨V3,hV3⟩:∃y,(V.put (Pl.aup V.b x) nA).log iw gj {V.l with next:=V.l.next+1,all:=V.l.all++ [Pl.be 4 cp++Pl.bj x]} d'=y:=⟨_,rfl⟩;have D6:cU V3 1 (aU go) ms w6:=hV3▸D6;have Ty:gW go B (sig x.time) r g2 V.b.count x.ops w6:=by obtain⟨D2,JS,aaI,hdf⟩:=id HY;exact JT (JS.aa B5) jV hk6
 have amR:ay w6 go 166 [.int .i64 tm,.slice A n aB,dJ r,.map (some g2),.int .i64 (V.b.count:Nat)]:=jV.cY hk6 (wS.aa B5 wS.lt) zj;have HD6:(w6.cell? ⟨gD,4,none⟩=some (.pointer (some ⟨V.gK,0,none⟩))/\w6.cell? ⟨gD,5,none⟩=some (.pointer (some ⟨go,0,none⟩))/\w6.cell? ⟨go,0,none⟩=some (.int .i64 tm)/\w6.cell? ⟨go,1,none⟩=some (.slice A n aB)):=by have h3:=D6.core.aC;rw[<-hV3]at h3;have h3:ay w6 V.gD _ _:=h3;rw[show V.gD=gD from HX.2.2.2.2.2.2.2.2.2.2.2.2.2]at h3;exact⟨h3.cell 4,h3.cell 5,amR.cell 0,amR.cell 1⟩
 have d2:w6.cell? ⟨gD,2,none⟩=some (.pointer (some ⟨V.gl,0,none⟩)):=by have h3:=D6.core.aC;rw[<-hV3]at h3;have h3:ay w6 V.gD _ _:=h3;rw[show V.gD=gD from HX.2.2.2.2.2.2.2.2.2.2.2.2.2]at h3;exact h3.cell 2
 have HSY:=RB V3 1 (aU go) ms w6 D6 (by rw[<-hV3];exact HX.2.2.2.2.2.1.bad) (by rw[<-hV3];show d'.aW<0;rw[rJ];exact HX.2.2.2.2.2.1.aW);have HSY:=HSY;have HZ:=TV Ty f6 rJ hln hV3;unfold aU at HSY;rw[show V3.gl=V.gl from by rw[<-hV3];rfl]at HSY;go_wp2_with fail;refine hK.out _ _ ⟨λ_=>trivial,HD6⟩ (λaz=>?_);refine zt 14 (h:=?_);(try simp only[Act.put,zq1,zq2,zP,zq4,zq5,RR]);refine bh zp ?_ _;go_wp2_with fail;refine HSY.mono ?_;rintro e w7 ⟨rfl,d7,D7,f7,⟨F7,ho7,hk7⟩,ath,apB⟩;have HQ:(aej V 1 ms go B (sig x.time) r g2 V.b.count x.ops x w (.returned .nilIface) w7):=by obtain⟨Ty,f6,rJ,hln,hV3⟩:=id HZ;obtain⟨D2,JS,aaI,hdf⟩:=id HY;subst hV3;exact⟨rfl,((hdf.trans (.ae B5)).trans f6).trans f7,nA,iw,gj,_,d7,D7,JT Ty ho7 hk7,⟨_,rfl⟩,ath.trans rJ,apB.trans hln⟩
 go_wp2_with fail;go_ret;exact HQ
theorem Bj(gK:Nat)(tm:Value)(n:Nat)(w:World)(h:vZ S gK tm (.int .i64 (n:Nat)) w):
 bG 83 #[aU gK] w λe w'=>e= .returned (.int .i64 (n:Nat))/\w'=w:=by
 have c2:=h.cell 2;simp only[au,aL]at c2;unfold aU;go_enter Tryz.func83,Tryz.ntmps83;go_wp2_with fail;go_ret;exact⟨rfl,rfl⟩
def SJ(r g2:Nat)(x:Pl.fh)(g1:Nat)(w:World)(e:Ending)(w':World):Prop:=
 ∃w6,aej V 1 ms go B time r g2 V.b.count x.ops x w (.returned .nilIface) w6/\e= .returned .nilIface/\w'=(w6.setCell ⟨g1,0,none⟩ (.int .i64 ((V.b.count+1:Nat):Int))).setCell ⟨V.gD,5,none⟩ (.pointer none)/\ay w6 g1 3 [.int .i64 0]
theorem SH(r g2:Nat)(x:Pl.fh)(Q:List Pl.fh)(g0 g1:Nat)(w:World)(h:cU V 1 (aU go) ms w)(hop:gW go B (sig x.time) r g2 V.b.count x.ops w)
 (gP:Pl.nz x) (hg:Pl.Good Q V.b) (hr:V.b.ps.length+20<=V.aA) (N6:su V) (hp:(Pl.bj x).length<=230) (kj:V.b.count<1000000) (h0:ay w g0 36 [aU V.gD]) (h1:ay w g1 3 [.int .i64 0]) (hne:x.ops≠ []):
 bG 177 #[.pointer (some ⟨g0,0,none⟩),.pointer (some ⟨g1,0,none⟩)] w (SJ V ms go B (sig x.time) r g2 x g1 w):=by
 have VL:=WW V ms go B r g2 x Q w h hop gP hg hr N6 hp kj;obtain⟨v,hgo,Us,_⟩:=id hop;obtain⟨A,aB,_,WO,_⟩:=OL.src Eo.fr Us;obtain⟨n,hn⟩:=ze x.ops.length;have Ue:((n:Int)==0)=false:=by have:n≠0:=λe=>hne (qo zo);exact b9.2 zo
 have y0:=cA h0;have d5:w.cell? ⟨V.gD,5,none⟩=some (.pointer (some ⟨go,0,none⟩)):=h.core.aC.cell 5;rw[WO,hn]at hgo;have o1:=hgo.cell 1;simp only[au,aL]at o1;obtain⟨gD,iJ⟩:=ze V.gD;unfold aU at y0 VL;rw[iJ]at y0 d5 VL;have HX:=sS h h0 h1 iJ;obtain⟨ct,og⟩:=ze V.b.count;go_enter Tryz.func177,Tryz.ntmps177;go_wp2_with fail;refine VL.mono ?_;rintro e w6 hq;obtain⟨rfl,hf,nA,iw,gj,l',d',D6,Ty,_⟩:=id hq;obtain⟨h,h0,h1,iJ⟩:=id HX;have hmt:∀k t cs,ay w k t cs->k≠V.gM:=λk t cs hb e=>by obtain⟨f,hf⟩:=h.book.tq.map;exact hf.kz t (e▸hb.dV)
 have b0:ay w6 g0 36 [aU V.gD]:=hf.1.aC h0 zj (hmt _ _ _ h0);have b1:ay w6 g1 3 [.int .i64 0]:=hf.1.aC h1 zj (hmt _ _ _ h1);have z0:=cA b0;have z1:=cA b1;have f1:=b1.frozen 0;have hB6:ay w6 V.gD 144 _:=D6.core.aC;have e4:w6.cell? ⟨V.gD,4,none⟩=some (.pointer (some ⟨V.gK,0,none⟩)):=hB6.cell 4;have e5:w6.cell? ⟨V.gD,5,none⟩=some (.pointer (some ⟨go,0,none⟩)):=hB6.cell 5;have f5:w6.frozen? ⟨V.gD,5,none⟩=false:=hB6.frozen 5;unfold aU at z0;rw[iJ]at z0 e4 e5 f5;have Qy:=Bj (S:=(V.fv ms)) V.gK _ (V.b.count+1) w6 D6.book.aC;obtain⟨c1,rX⟩:=ze (V.b.count+1);rw[rX]at Qy;have Qy:=Qy;have n1:g0≠g1:=λe=>absurd ((e▸h0.dV).dv h1.dV) zj;have n2:gD≠g1:=λe=>absurd ((iJ.trans e▸h.core.aC.dV).dv h1.dV) zj;have n1':g1≠g0:=λe=>n1 e.symm;have n2':g1≠gD:=λe=>n2 e.symm;have HQ:(SJ V ms go B (sig x.time) r g2 x g1 w (.returned .nilIface) ((w6.setCell ⟨g1,0,none⟩ (.int .i64 (c1:Int))).setCell ⟨gD,5,none⟩ (.pointer none))):=⟨w6,hq,rfl,by rw[rX,iJ],b1⟩;unfold aU at Qy;go_wp2_with fail;refine Qy.mono ?_;rintro e w7 ⟨rfl,rfl⟩;go_wp2_with fail;go_ret;exact HQ
theorem Ux{fn:Func}{t s:Tmp}{tmps:Array Value}{g:Nat}{a c:Value}(h:fn.results= #[.cell t 3,.tmp s])(ht:tmps.getD t undef= .pointer (some ⟨g,0,none⟩))(hs:tmps.getD s undef=c)(hB:ay w g 3 [a]):
 (results fn tmps).run Tryz.prog w= .ok (.tuple #[a,c]) w:=by
 have c0:=hB.cell 0;simp only[au]at c0;simp only[fF]at ht hs;simp[results,h,ht,hs,go_sem,c0,asAddr]
theorem lV.new{a b c:World}(h:lV gM a b)(ho:ag F b c)(hF:∀k,F k->a.heap.size<=k)(fu:LO<=a.heap.size):lV gM a c:=
 ⟨h.1.since ho zw,h.2.aE (ho.mono (λk _ hk=> .inl (ao fu (hF k hk))))⟩
def abE(x:Pl.fh)(w w':World):Prop:=
 lV V.gM w w'/\∃nA iw gj l' d',cU ((V.put (Pl.aup V.b x) nA).log iw gj l' d') st (.pointer none) ms w'/\(∃p,l'={V.l with next:=V.l.next+1,all:=V.l.all++ [p]})/\d'.aW=V.E.d.aW/\d'.aV.length=V.E.d.aV.length
theorem SJ.com{V:ia}{ms:List (Nat×List Pl.Pr)}{go B:Nat}{time:Int}{r:Nat}{g1:Nat}(h:SJ V ms go B time r g2 x g1 w e w')(hz:Zn g1):
 ∃nA iw gj l' d',cU ((V.put (Pl.aup V.b x) nA).log iw gj l' d') 1 (.pointer none) ms w'/\(∃p,l'={V.l with next:=V.l.next+1,all:=V.l.all++ [p]})/\d'.aW=V.E.d.aW/\d'.aV.length=V.E.d.aV.length/\ay w' g1 3 [.int .i64 ((V.b.count+1:Nat):Int)]/\∀wa,lV V.gM wa w->wa.heap.size<=g1->LO<=wa.heap.size->lV V.gM wa w':=by
 obtain⟨w6,⟨_,hf,nA,iw,gj,l',d',D6,_,hl,vT,oZ⟩,_,rfl,aI⟩:=h;obtain⟨wA,hwA⟩:∃y,w6.setCell ⟨g1,0,none⟩ (.int .i64 ((V.b.count+1:Nat):Int))=y:=by simp
 have o1:ag (·=g1) w6 wA:=by rw[<-hwA];exact(ag.refl (·=g1) w6).setCell (p:=⟨g1,0,none⟩) zu _
 have DA:=D6.bQ o1 (aD aI) zj zS;have bA:ay wA g1 3 [.int .i64 ((V.b.count+1:Nat):Int)]:=by rw[<-hwA];exact aI.bw 0 _
 obtain⟨D7,o7⟩:=DA.cell (i:=5) (u:= .pointer none) (Ke:= .pointer none) (ZK:=1) rfl;have hBD:ay wA V.gD 144 _:=DA.core.aC;have hne:g1≠V.gD:=λe=>absurd ((e▸bA.dV).dv hBD.dV) zj;rw[hwA];refine⟨nA,iw,gj,l',d',D7,hl,vT,oZ,bA.mK (p:=⟨V.gD,5,none⟩) hne _,λwa ha hs fu=>?_⟩;exact((ha.trans hf).new o1 zS fu).trans (mC (V:=(V.put (Pl.aup V.b x) nA).log iw gj l' d') DA o7)
theorem UF(r g2:Nat)(x:Pl.fh)(Q:List Pl.fh)(w:World)(h:cU V 0 (aU go) ms w)(hop:gW go B (sig x.time) r g2 V.b.count x.ops w)
 (gP:Pl.nz x) (hg:Pl.Good Q V.b) (hr:V.b.ps.length+20<=V.aA) (N6:su V) (hp:(Pl.bj x).length<=230) (kj:V.b.count<1000000) (hne:x.ops≠ []):
 bG 111 #[aU V.gD] w λe w'=>e= .returned (.tuple #[.int .i64 ((V.b.count+1:Nat):Int),.nilIface])/\abE V 0 ms x w w':=by
 obtain⟨c1,rX⟩:=ze (V.b.count+1);rw[rX];obtain⟨w1,dj⟩:=ze (w.alloc (.cells #[aU V.gD] 36));obtain⟨w2,iA⟩:=ze (w1.alloc (.cells #[.int .i64 0] 3));obtain⟨g0,jz⟩:=ze w.heap.size;have aI:=zb dj;have bz:=zb iA;have ma:w1.heap.size=g0+1:=by rw[<-dj,<-jz];simp
 have B1:=zB dj jz;have B2:ay w2 (g0+1) 3 [.int .i64 0]:=by rw[<-iA,<-ma];exact ay.new w1 3 _
 have LS:=B1.aa bz B1.lt;have dM:=aI.trans (bz.mono aI.size);have h2:=h.aa dM;have c0:=cA LS;have iJ:V.gD<g0:=by rw[<-jz];exact h.core.aC.lt
 have fu:=h.ctx.lo;have HC:=(oE V ms (aU go) 177 #[.pointer (some ⟨g0,0,none⟩),.pointer (some ⟨g0+1,0,none⟩)] (λW err w'=>err= .nilIface/\cU V 1 (aU go) ms W/\SJ V ms go B (sig x.time) r g2 x (g0+1) W (.returned err) w') w2 h2 (λW=>by simp[go_sem]) (λW hd hW ho=>by
  have b1:ay W g0 36 [aU V.gD]:=ho.aC LS (λe=>by omega);have b2:ay W (g0+1) 3 [.int .i64 0]:=ho.aC B2 (λe=>by omega);refine(SH V ms go B r g2 x Q g0 (g0+1) W hd ((hop.aa dM).lock h2 ho) gP hg hr N6 hp kj b1 b2 hne).mono ?_;rintro e w' hq;obtain⟨nA,iw,gj,l',d',hD,_⟩:=hq.com (.inl zo);obtain⟨w6,k1,rfl,k3⟩:=id hq;exact⟨.nilIface,_,(V.put (Pl.aup V.b x) nA).log iw gj l' d',_,rfl,rfl,rfl,rfl,rfl,rfl,hD,⟨rfl,hd,hq⟩,λW=>th 3 W⟩))
 have HX:=ze6 dM h2 jz fu B2 iJ;unfold aU at dj c0|-
 have JJ:=zf Tryz.prog;go_enter Tryz.func111,Tryz.ntmps111;go_wp2_with fail;refine HC.mono ?_;rintro e w4 ⟨err,w3,W,rfl,hW,⟨rfl,hd,hq⟩,rfl⟩;obtain⟨dM,h2,jz,fu,B2,iJ⟩:=id HX;obtain⟨nA,iw,gj,l',d',D3,hl,vT,oZ,bg,tu⟩:=hq.com (.inl zo);obtain⟨k1,k2⟩:=h2.lock (b:=1);obtain⟨k3,k4⟩:=D3.lock (b:=0);have k4:ag (·=V.gD) w3 (w3.setCell ⟨V.gD,0,none⟩ (.int .i32 0)):=k4;have k3:cU ((V.put (Pl.aup V.b x) nA).log iw gj l' d') 0 (.pointer none) ms (w3.setCell ⟨V.gD,0,none⟩ (.int .i32 0)):=k3;have hf4:lV V.gM w (w3.setCell ⟨V.gD,0,none⟩ (.int .i32 0)):=(tu w ((lV.ae dM).trans (mC h2 (hW▸k2))) zo fu).trans (mC (V:=(V.put (Pl.aup V.b x) nA).log iw gj l' d') D3 k4);have cj:ay (w3.setCell ⟨V.gD,0,none⟩ (.int .i32 0)) (g0+1) 3 [.int .i64 ((V.b.count+1:Nat):Int)]:=bg.mK (p:=⟨V.gD,0,none⟩) (by show g0+1≠V.gD;omega) _;obtain⟨w4,qz⟩:=ze (w3.setCell ⟨V.gD,0,none⟩ (.int .i32 0));rw[qz]at k3 hf4 cj|-
 rw[rX]at cj;have z1:=cA cj;have f1:=cj.frozen 0;have abG:w4.setCell ⟨g0+1,0,none⟩ (.int .i64 (c1:Int))=w4:=tO cj;have HQ:(abE V 0 ms x w w4):=⟨hf4,nA,iw,gj,l',d',k3,hl,vT,oZ⟩;go_wp2_with fail;exact bH (Ux rfl rfl rfl cj) rfl ⟨rfl,HQ⟩
def akU(g2 g3:Nat)(w:World)(e:Ending)(w':World):Prop:=
 e= .returned .nilIface/\∃w5 A aB,SF (V.fv ms) w w5/\cU V 1 op ms w5/\l.length<=aB/\dn w5 A (bv l) 5/\w'=(w5.setCell ⟨g2,0,none⟩ (.slice A l.length aB)).setCell ⟨g3,0,none⟩ .nilIface
theorem ahp(g0 g1 g2 g3:Nat)(w:World)(h:cU V 1 op ms w)(h0:ay w g0 3 [.int .i64 (n:Nat)])(h1:ay w g1 36 [aU V.gD])(h2:ay w g2 29 [.slice none 0 0])(h3:ay w g3 73 [.nilIface])
 (uc:1<=n) (mV:n<=V.b.count) (og:V.b.count<1000000) (hroom:V.aA<=100000) (hl:(Pl.jw (Pl.jU (Pl.aum 112 n [])) V.b.ps).flatMap Pl.Pr.val=l):
 bG 82 #[.pointer (some ⟨g0,0,none⟩),.pointer (some ⟨g1,0,none⟩),.pointer (some ⟨g2,0,none⟩),.pointer (some ⟨g3,0,none⟩)] w (akU V op ms l g2 g3 w):=by
 have hwd:Below w.heap.size w w.drew:=⟨rfl,rfl,rfl,ai _,λ_ _=>rfl⟩;have nE:=h.aa hwd;have Qy:=Bj (S:=V.fv ms) V.gK _ V.b.count w.drew nE.book.aC;have WX:=nE.aa (show Below w.drew.heap.size w.drew w.drew.drew from⟨rfl,rfl,rfl,ai _,λ_ _=>rfl⟩);have HPY:=DD (dS V.E V.js ms V.aA) (λh=>h) hroom V.gK _ _ V.b.ps (Nb V.E V.js ms V.aA V.b.ps) n w.drew.drew WX.book.aC WX.book.fv WX.ctx zo;rw[hl]at HPY;obtain⟨ct,apT⟩:=ze V.b.count;rw[apT]at Qy mV og;have Qy:=Qy;have HPY:=HPY;have y0:=cA h0;have y1:=cA h1;have y4:w.cell? ⟨V.gD,4,none⟩=some (.pointer (some ⟨V.gK,0,none⟩)):=h.core.aC.cell 4;obtain⟨gD,iJ⟩:=ze V.gD;unfold aU at y1 Qy;rw[iJ]at y1 y4;have q1:((n:Int)<1)=False:=by simp;omega
 have q1':decide ((n:Int)<1)=false:=aH zo;have q2:decide ((n:Int)>(ct:Int))=false:=aH zo;have q2':decide ((ct:Int)<(n:Int))=false:=aH zo;have HX:=ze8 h h0 h1 h2 h3 iJ hwd hl;go_enter Tryz.func82,Tryz.ntmps82
 go_upto_region 1 with fail
 refine aN 8 (λ_=>True) (λW=>W.cell? ⟨g0,0,none⟩=some (.int .i64 (n:Nat))/\W.cell? ⟨g1,0,none⟩=some (.pointer (some ⟨gD,0,none⟩))/\W.cell? ⟨gD,4,none⟩=some (.pointer (some ⟨V.gK,0,none⟩))) zp trivial ⟨y0,y1,y4⟩ (λaz=>?_);refine zt 0 (h:=zt 1 (h:=zt 2 (h:=zt 3 (h:=zt 4 (h:=zt 5 (h:=zt 6 (h:=zt 7 (h:=?_))))))));refine zr 8 λK hK=>?_;go_simp;refine Qy.mono ?_;rintro e w2 ⟨rfl,rfl⟩;go_wp2_with fail;refine hK.out _ _ ⟨λ_=>trivial,y0,y1,y4⟩ (λaz=>?_);refine zt 9 (h:=zt 10 (h:=?_));(try simp only[Act.put,zq1,zq2,zP,zq4,zq5,RR]);refine bh zp ?_ _
 go_upto_region 3 with fail
 refine aN 10 (λ_=>True) (λW=>W.cell? ⟨g0,0,none⟩=some (.int .i64 (n:Nat))/\W.cell? ⟨g1,0,none⟩=some (.pointer (some ⟨gD,0,none⟩))/\W.cell? ⟨gD,4,none⟩=some (.pointer (some ⟨V.gK,0,none⟩))) zp trivial ⟨y0,y1,y4⟩ (λaz=>?_);refine zt 0 (h:=zt 1 (h:=zt 2 (h:=zt 3 (h:=zt 4 (h:=?_)))));refine zr 5 λK hK=>?_;go_simp;refine HPY.mono ?_;rintro e w5 ⟨FY,ha5,A5,c5,rfl,La,ht5⟩;obtain⟨h,h0,h1,h2,h3,iJ,hwd,hl⟩:=id HX;have aav:Below w.heap.size w w.drew.drew:=⟨rfl,rfl,rfl,ai _,λ_ _=>rfl⟩;have hdd:=h.aa aav;have D5:=hdd.sf FY ha5;have KA:SF (V.fv ms) w w5:=(SF.ae aav).trans FY;have b0:ay w5 g0 _ _:=SF.aC (dS _ _ _ _) KA h.book.fv h0 zj;have b1:ay w5 g1 _ _:=SF.aC (dS _ _ _ _) KA h.book.fv h1 zj;have b2:ay w5 g2 _ _:=SF.aC (dS _ _ _ _) KA h.book.fv h2 zj;have b3:ay w5 g3 _ _:=SF.aC (dS _ _ _ _) KA h.book.fv h3 zj;have z0:=cA b0;have z1:=cA b1;have z2:=cA b2;have z3:=cA b3;have f2:=b2.frozen 0;have f3:=b3.frozen 0;have z4:w5.cell? ⟨V.gD,4,none⟩=some (.pointer (some ⟨V.gK,0,none⟩)):=D5.core.aC.cell 4;have dif:∀{k j:Nat} {t u:TypeId},jh w5 k t->jh w5 j u->t≠u->k≠j:=λhk hj hne e=>hne ((e▸hk).dv hj);have tD:jh w5 V.gD 144:=D5.core.aC.dV;unfold aU at z1;rw[iJ]at z1 z4 tD;have n20:g2≠g0:=dif b2.dV b0.dV zj;have n21:g2≠g1:=dif b2.dV b1.dV zj;have n2D:g2≠gD:=dif b2.dV tD zj;have n30:g3≠g0:=dif b3.dV b0.dV zj;have n31:g3≠g1:=dif b3.dV b1.dV zj;have n3D:g3≠gD:=dif b3.dV tD zj;have n23:g2≠g3:=dif b2.dV b3.dV zj;have n32:g3≠g2:=λe=>n23 e.symm;obtain⟨wA,hwA⟩:=ze (w5.setCell ⟨g2,0,none⟩ (.slice A5 l.length c5));obtain⟨wB,hwB⟩:=ze (wA.setCell ⟨g3,0,none⟩ .nilIface);have ahd:∀k i,g2≠k->wA.cell? ⟨k,i,none⟩=w5.cell? ⟨k,i,none⟩:=λk i hk=>by rw[<-hwA];exact Cv _ ⟨g2,0,none⟩ ⟨k,i,none⟩ _ (λe=>hk (congrArg Addr.block e))
 have ajZ:∀k i,g3≠k->wB.cell? ⟨k,i,none⟩=wA.cell? ⟨k,i,none⟩:=λk i hk=>by rw[<-hwB];exact Cv _ ⟨g3,0,none⟩ ⟨k,i,none⟩ _ (λe=>hk (congrArg Addr.block e))
 have HD5:=zd z0 z1 z4;have HDA:(wA.cell? ⟨g0,0,none⟩=some (.int .i64 (n:Nat))/\wA.cell? ⟨g1,0,none⟩=some (.pointer (some ⟨gD,0,none⟩))/\wA.cell? ⟨gD,4,none⟩=some (.pointer (some ⟨V.gK,0,none⟩))):=⟨(ahd _ _ n20).trans z0,(ahd _ _ n21).trans z1,(ahd _ _ n2D).trans z4⟩;have HDB:(wB.cell? ⟨g0,0,none⟩=some (.int .i64 (n:Nat))/\wB.cell? ⟨g1,0,none⟩=some (.pointer (some ⟨gD,0,none⟩))/\wB.cell? ⟨gD,4,none⟩=some (.pointer (some ⟨V.gK,0,none⟩))):=⟨(ajZ _ _ n30).trans HDA.1,(ajZ _ _ n31).trans HDA.2.1,(ajZ _ _ n3D).trans HDA.2.2⟩;have y3:wA.cell? ⟨g3,0,none⟩=some .nilIface:=(ahd _ _ n23).trans z3;have fA:wA.frozen? ⟨g3,0,none⟩=false:=by rw[<-hwA];simp[f3]
 have bB:wB.cell? ⟨g3,0,none⟩=some .nilIface:=by rw[<-hwB];exact World.cell?_setCell_same _ _ _ y3
 have HQ:(akU V op ms l g2 g3 w (.returned .nilIface) wB):=⟨rfl,w5,A5,c5,KA,D5,La,ht5,by rw[hwA,hwB]⟩;obtain⟨m,hm⟩:=ze l.length;rw[hm]at hwA|-
 go_wp2_with fail;refine hK.out _ _ ⟨λ_=>trivial,HD5⟩ (λaz=>?_);refine zt 6 (h:=zt 7 (h:=zt 8 (h:=?_)));refine zr 9 λK hK=>?_;go_simp;(try rw[hwA]);refine hK.out _ _ ⟨λ_=>trivial,HDA⟩ (λaz=>?_);refine zr 10 λK hK=>?_;go_simp;(try rw[hwB]);refine hK.out _ _ ⟨λ_=>trivial,HDB⟩ (λaz=>?_);(try simp only[Act.put,zq1,zq2,zP,zq4,zq5,RR]);refine bh zp ?_ _;go_wp2_with fail;go_ret;exact HQ
end Go.Proofs.YtbhpofdafhahgaaGreatDoor
