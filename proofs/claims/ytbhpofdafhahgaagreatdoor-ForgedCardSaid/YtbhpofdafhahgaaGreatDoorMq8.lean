/- Part 8: CodecN CodecO PgB PgC OwnL PgD PgE. -/
import Derived.Test.YtbhpofdafhahgaaGreatDoorMq7
set_option linter.all false
set_option maxHeartbeats 8000000
set_option maxRecDepth 100000
namespace Go.Proofs.YtbhpofdafhahgaaGreatDoor
open Go.RowKit
variable {ks:List Pl.Key} {k:Nat} {x:Pl.Key}
variable (a:Addr) (w:World)
theorem QQ{c:Pl.Cl}(h:ClB c):(Pl.rO c).length<=257:=by
 unfold Pl.rO Pl.short;have:=h.1
 grind
theorem FU(v:Value)(l:List UInt8)(A:Option Addr)(aB:Nat)(aZ:List Pl.Cl)(aq:Nat)(w:World)(bI:Ob w aq v l)(de:aq<=w.heap.size)(hl:l.length<=274877906944)(hs:Src w A (mq aZ))(wG:Off w v A)
 (hx:∀x∈aZ,ClB x) (hr:aZ.length<256):
 bG 247 #[v,.slice A aZ.length aB] w (Wr w aq v (l++Pl.ku aZ)):=by
 obtain⟨n,hn⟩:=ze aZ.length;have acB:n<256:=zo;have w1:=wrap_u8 acB;obtain⟨H1,H2,H3,H4,H6⟩:=OW (bI.alloc (.cells #[.int .u8 (n:Int)] 5)) (lH w n acB) (iV de (.cells #[.int .u8 (n:Int)] 5)) ((Mv.refl w v).alloc (.cells #[.int .u8 (n:Int)] 5)) (show l.length+1<=70368744177664 by omega);rw[hn];clear bI de hr;go_enter Tryz.func247,Tryz.ntmps247;go_wp2_with (first
  |(at_builtin
    refine ic (v:=v) rfl (.tmp 7) (.tmp 11) rfl rfl H1 (some ⟨w.heap.size,0,none⟩) 1 1 [UInt8.ofNat n] rfl rfl H2 H6 H3 ?_;intro v2 w2 o2 m2;have o2:=zi o2;have m2:=zi m2)
  |fail)
 go_loopw [0,15] (λu i wr=>∃k:Nat,k<=n/\i= .int .i64 (k:Int)/\Hid (Ob wr aq u (l++UInt8.ofNat n::(aZ.take k).flatMap Pl.rO))/\Hid (Mv w wr v u)/\Hid (aq<=wr.heap.size)) (λ_ i _=>n-(intOf i).toNat)
 case atStart=>exact⟨0,aM _,rfl,(by simpa [Hid] using o2:Hid _),H4.trans m2,ao H3 m2.1.size⟩
 case round=>
  obtain⟨k,hk,rfl,HO,HM,HB⟩:=hrel;by_cases pX:k<n
  ·have q1:(k:Int)<(n:Int):=zo;obtain⟨x,hc⟩:∃c,aZ[k]?=some c:=⟨_,aF (by rw[hn];exact pX)⟩;have mM:=wG.src HM hs;have dm:=jB (f:=YL) (s:=2) (λ_=>rfl) aZ k x hc;obtain⟨b,off,rfl,g0⟩:=mM.dm _ _ (dm 0 zo);have g1:=mM.cell _ _ (dm 1 zo);rw[<-ew]at g1;rw[cI]at g0;have hf:=xJ (f:=Pl.rO) (m:=257) (aZ.take k) (λy hy=>QQ (hx y (mQ hy)));have ht:(aZ.take k).length<=256:=by rw[aP];omega
   have bU:Hid ((l++UInt8.ofNat n::(aZ.take k).flatMap Pl.rO).length<=549755813888):=by rw[Hid,ax,bE];have:=hl;omega
   have hxb:=hx x (bO hc);obtain⟨nm,ty⟩:=x;obtain⟨vL,qG⟩:=hxb;dsimp only at g0 g1 vL qG;obtain⟨lk,mW⟩:=ze (l++UInt8.ofNat n::(aZ.take k).flatMap Pl.rO);rw[mW]at HO bU;obtain⟨g6,Ai⟩:=ze wr.heap.size;obtain⟨wb,p9⟩:=ze (wr.alloc (.cells #[.string (ar nm),.int .i64 (ty:Nat)] 121));have BB:=zB p9 Ai;have obb:Ob wb aq u0 lk:=by rw[<-p9];exact HO.alloc _
   have mbb:Mv w wb v u0:=by rw[<-p9];exact HM.alloc _
   have dM:aq<=wb.heap.size:=by rw[<-p9];exact iV HB _
   have hne:u0.ownBlock≠some g6:=λe=>by have:=(HO.lt g6 e).2;omega
   obtain⟨c0,c1,_,_⟩:=aO BB;have wty:=wrap_u8 qG;have HSH:∀W,Ob W aq u0 lk->aq<=W.heap.size->bG 246 #[u0,.string (ar nm)] W (Wr W aq u0 (lk++Pl.short nm)):=λW h1 h2=>Fj u0 lk nm aq W h1 h2 (zA bU.out) zo;obtain⟨HSH,BB⟩:=dz HSH BB;have HL2:Hid ((lk++Pl.short nm).length+1<=70368744177664):=by rw[Hid,ax];unfold Pl.short;simp only[bE];have:=bU.out;omega
   obtain⟨PI,HTY⟩:=dz (And.intro c0 c1) qG;clear mM dm hf ht;go_wp2_with fail;refine aN 8 (λ_=>True) (λW=>W.cell? ⟨g6,0,none⟩=some (.string (ar nm))/\W.cell? ⟨g6,1,none⟩=some (.int .i64 (ty:Nat))) zp trivial PI (λaz=>?_);refine zt 0 (h:=zt 1 (h:=zt 2 (h:=zt 4 (h:=zt 5 (h:=zt 6 (h:=?_))))));(try simp only[Act.put,zq1,zq2,zP,zq4,zq5,RR]);refine j6 (rs:=[3,7]) zp zu ?_;refine kX.cons (o:=_) rfl (λK hK=>?_) (kX.cons (o:=_) rfl (λK hK=>?_) kX.nil)
   ·go_simp;refine(HSH wb.drew obb dM).mono ?_;rintro e w3 ⟨v3,rfl,o3,m3⟩;have NE3:Hid (v3.ownBlock≠some g6):=m3.2 g6 BB.lt hne;obtain⟨BB3,O3,M3,bg,S3⟩:=OW (m3.only.aC BB.drew hne) (Ob.alloc o3 (.cells #[.int .u8 (ty:Nat)] 5)) ((mbb.drew.trans m3).alloc (.cells #[.int .u8 (ty:Nat)] 5)) (iV (ao dM m3.1.size) (.cells #[.int .u8 (ty:Nat)] 5)) (lH w3 ty HTY);have B3:=zi (BB3.alloc (.cells #[.int .u8 (ty:Nat)] 5));obtain⟨W3,J5⟩:=ze (w3.alloc (.cells #[.int .u8 (ty:Nat)] 5));rw[J5]at O3 M3 bg S3 B3;obtain⟨gx,hgx⟩:=ze w3.heap.size;rw[hgx]at S3;go_wp2_with fail;refine hK.out _ _ ⟨λ_=>trivial,BB3.cell 0,BB3.cell 1⟩ (λaz=>?_);clear hK K;(try simp only[Act.put,zq1,zq2,zP,zq4,zq5,RR]);clear o3 m3;refine zr 7 λK hK=>?_;go_simp;refine hK.out _ _ ⟨λ_=>trivial,B3.cell 0,B3.cell 1⟩ (λaz=>?_);clear hK K;refine zr 8 λK hK=>?_;refine GR (v:=v3) rfl (.tmp 22) (.tmp 26) rfl rfl O3 (some ⟨gx,0,none⟩) 1 1 [UInt8.ofNat ty] rfl rfl S3 HL2 bg ?_;intro v4 w4 o4 m4;have B4:=zi (m4.only.aC B3 (λe=>NE3 e));have O4:Hid (Ob w4 aq v4 (l++UInt8.ofNat n::(aZ.take (k+1)).flatMap Pl.rO)):=by rw[Hid,tS _ hc,<-eu,<-cJ,mW];unfold Pl.rO;rw[<-cJ];exact o4
    obtain⟨M4,ib⟩:=dz (M3.trans m4) (ao bg m4.1.size);clear o4 m4;refine hK.out _ _ ⟨λ_=>trivial,B4.cell 0,B4.cell 1⟩ (λaz=>?_);clear hK K;refine zt 9 (h:=?_);(try simp only[Act.put,zq1,zq2,zP,zq4,zq5,RR]);refine bh zp ?_ _;clear az;go_wp2_with fail;exact⟨⟨k+1,zo,by go_num,O4,M4,ib⟩,by simp[intOf];omega⟩
   ·have B1:=zi (BB.drew.alloc (.cells #[.int .u8 (ty:Nat)] 5));have O1:Hid (Ob (wb.drew.alloc (.cells #[.int .u8 (ty:Nat)] 5)) aq u0 lk):=Ob.alloc (w:=wb.drew) obb _;obtain⟨b1,S1⟩:=dz (iV (w:=wb.drew) dM (.cells #[.int .u8 (ty:Nat)] 5)) (lH wb.drew ty HTY);have M1:Hid (Mv w (wb.drew.alloc (.cells #[.int .u8 (ty:Nat)] 5)) v u0):=Mv.alloc mbb.drew _;obtain⟨W1,tC⟩:=ze (wb.drew.alloc (.cells #[.int .u8 (ty:Nat)] 5));rw[tC]at B1 O1 b1 S1 M1;obtain⟨gx,hgx⟩:=ze wb.heap.size;have S1:Hid (Src W1 (some ⟨gx,0,none⟩) (bv [UInt8.ofNat ty])):=by rw[<-hgx];exact S1
    have hgo:u0.ownBlock≠some gx:=λe=>by have:=(obb.lt gx e).2;omega
    have HGO:=zi hgo;go_simp;refine hK.out _ _ ⟨λ_=>trivial,B1.cell 0,B1.cell 1⟩ (λaz=>?_);clear hK K;refine zr 3 λK hK=>?_;go_simp;refine(HSH _ O1 b1).mono ?_;rintro e w3 ⟨v3,rfl,o3,m3⟩;obtain⟨M3,bg,S3,B3⟩:=yx (M1.trans m3) (ao b1 m3.1.size) (m3.only.src S1 (λp hp=>by injection hp with hp;subst hp;exact HGO)) (m3.only.aC B1 (λe=>hne e));have NE3:Hid (v3.ownBlock≠some g6):=m3.2 g6 B1.lt hne;clear m3;go_wp2_with fail;refine hK.out _ _ ⟨λ_=>trivial,B3.cell 0,B3.cell 1⟩ (λaz=>?_);clear hK K;refine zr 8 λK hK=>?_;refine GR (v:=v3) rfl (.tmp 22) (.tmp 26) rfl rfl o3 (some ⟨gx,0,none⟩) 1 1 [UInt8.ofNat ty] rfl rfl S3 HL2 bg ?_;intro v4 w4 o4 m4;have B4:=zi (m4.only.aC B3 (λe=>NE3 e));have O4:Hid (Ob w4 aq v4 (l++UInt8.ofNat n::(aZ.take (k+1)).flatMap Pl.rO)):=by rw[Hid,tS _ hc,<-eu,<-cJ,mW];unfold Pl.rO;rw[<-cJ];exact o4
    obtain⟨M4,ib⟩:=dz (M3.trans m4) (ao bg m4.1.size);clear o4 m4;refine hK.out _ _ ⟨λ_=>trivial,B4.cell 0,B4.cell 1⟩ (λaz=>?_);clear hK K;refine zt 9 (h:=?_);(try simp only[Act.put,zq1,zq2,zP,zq4,zq5,RR]);refine bh zp ?_ _;clear az;go_wp2_with fail;exact⟨⟨k+1,zo,by go_num,O4,M4,ib⟩,by simp[intOf];omega⟩
  ·obtain rfl:k=n:=zo;have kJ:Hid (Ob wr aq u0 (l++Pl.ku aZ)):=by have:=HO.out;rw[dx (by rw[hn];exact ai _)]at this;rw[Hid];unfold Pl.ku;rw[hn];exact this
   clear HO;go_wp2_with fail;go_ret;exact⟨_,rfl,kJ,HM⟩
def NB(l:List UInt8)(e:Ending)(w':World):Prop:=
 ∃A n aB,e= .returned (.slice A n aB)/\l.length=n/\n<=aB/\aw w' A l/\(∀p,A=some p->w.heap.size<=p.block/\p.block<w'.heap.size)/\Below w.heap.size w w'
theorem Wr.nb{w0 w:World}{aq:Nat}{v:Value}{l0 l:List UInt8}{e:Ending}{w':World}(h:Wr w aq v l e w')(ho:Ob w aq v l0)(hb:dP w0 w)(hl:w0.heap.size<=aq)(hs:aq<=w.heap.size):NB w0 l e w':=by obtain⟨v',rfl,h1,h2⟩:=h;obtain⟨A,aB,rfl,h3,h4,h5⟩:=h1.bytes;refine⟨A,_,aB,rfl,rfl,h3,h4,λp hp=>zw,hb.trans ((h2.gV ho hs).mono hl)⟩
theorem Ob.lit(c aq:Nat)(hc:c<256)(hb:aq<=w.heap.size):Ob (w.alloc (.cells #[.int .u8 (c:Int)] 5)) aq (.slice (some ⟨w.heap.size,0,none⟩) 1 1) [UInt8.ofNat c]:=by
 have:bv [UInt8.ofNat c]=[.int .u8 (c:Int)]:=by simp[bv];omega
 rw[Ob,this];exact World.ownsRow_lit w #[.int .u8 (c:Int)] 1 hb (by simp only[maxLen];omega) rfl
theorem p8.b{o:Pl.jb}(h:Pl.p8 o):o.kind<5/\o.table.length<=8/\o.aZ.length<=4/\o.row.length<=4/\(∀x∈o.aZ,ClB x)/\(∀x∈o.row,VlB x)/\(o.kind=4->∃v,o.row=[v]):=by
 obtain⟨h0,h⟩:=h;have hv:∀v,Pl.Gq v->VlB v:=λv hv=>by
  have e:(256:Nat)^8=18446744073709551616:=zj;rcases hv with⟨a,b,c⟩|⟨a,b,c⟩
  ·exact⟨zo,zo,by simp[b]⟩
  ·exact⟨zo,zo,zo⟩
 have hc:∀c,Pl.Gv c->ClB c:=λc hc=>⟨by have:=hc.1.1.2;omega,by have:=hc.2;omega⟩;have ht:o.table.length<=8:=h0.1.2;rcases h with⟨a,b,c⟩|⟨a,b,c⟩|⟨a,b,v,c,d⟩
 ·exact⟨zo,ht,b.1.2,by simp[c],λx hx=>hc x (b.2.1 x hx),by simp[c],zS⟩
 ·exact⟨zo,ht,by simp[b],c.1.2,by simp[b],λx hx=>hv x (c.2 x hx),λe=>by omega⟩
 grind
theorem WQ(P:Nat->Prop)(c:List Value)(o:Pl.jb)(w:World)(hR:OP w P c o)(hP:∀b,P b->b<w.heap.size)(gP:Pl.p8 o):
 bG 188 #[.agg c.toArray] w (NB w (Pl.fp o)):=by
 obtain⟨hk,ht,CC,s9,zV,Ex,h4⟩:=p8.b gP;obtain⟨Ac,cc,Ar,cr,rfl,hcc,Ug,IQ,mM,hpc,hpr⟩:=hR;obtain⟨kind,table,aZ,row⟩:=o;dsimp only at hk ht CC s9 zV Ex h4 hcc Ug IQ mM|-
 obtain⟨nr,Gc⟩:=ze row.length;have HNR:=zi Gc;rw[Gc]at s9 Ug|-
 have hz:=bK table;have wk:=wrap_u8 (show kind<256 by omega);obtain⟨gb,wb,pO,p9,dM,BB⟩:=zE w 216 [.int .i64 (kind:Nat),.string (ar table),.slice Ac aZ.length cc,.slice Ar nr cr];have Lu:wb.heap.size=w.heap.size+1:=by rw[<-p9];simp
 obtain⟨c0,c1,c2,c3⟩:=eh BB;have O1:=zi (Ob.lit wb kind wb.heap.size zo (ai _));obtain⟨W1,tC,B1⟩:=zF wb (.cells #[.int .u8 (kind:Int)] 5);rw[tC]at O1;obtain⟨HSH,rK,fJ,xC,HSB,PI,HSR⟩:=zh7 (Fj _ _ table wb.heap.size W1 O1 (by rw[<-tC];simp) zu zo) BB B1 dM Lu (IQ.aa dM) (mM.aa dM);have rX:=B1.cell (p:=⟨gb,1,none⟩) (by have:=BB.lt;exact this);rw[c1]at rX;obtain⟨HPC,HPR,HP,HCB,HRB⟩:=OW hpc hpr hP zV Ex;clear BB B1 dM Lu IQ mM hpc hpr hP zV Ex gP Gc;have VY:Hid (Pl.fp ⟨kind,table,aZ,row⟩=([UInt8.ofNat kind]++Pl.short table)++(if kind=1 then Pl.ku aZ else if kind=4 then row.flatMap Pl.nI else Pl.l6 row)):=rfl;have HL:Hid (([UInt8.ofNat kind]++Pl.short table).length<=1000):=by rw[Hid];unfold Pl.short;simp;omega
 by_cases k1:kind=1
 ·have q1:((kind:Int)==1)=true:=by rw[k1];rfl
  rw[ah k1]at VY;clear k1 h4;go_enter Tryz.func188,Tryz.ntmps188;go_wp2_with fail;refine HSH.mono ?_;rintro e w2 ⟨v2,rfl,o2,m2⟩;have b2:=fJ.trans (m2.gV O1 (by rw[<-tC];simp));obtain⟨d0,d1,d2,d3⟩:=eh (rK.aa b2 rK.lt);obtain⟨B2,O2⟩:=dz b2 o2;clear m2 o2 b2;go_wp2_with fail;refine(FU v2 _ Ac cc aZ wb.heap.size w2 O2 B2.size (zA HL.out) (PI.aa B2.out) (λp hp=>?_) HCB.out zo).mono ?_
  ·have h1:=HP.out _ (HPC p hp);have h2:=HSB.out;have h3:=B2.size;exact⟨zo,λe=>by have:=(O2.lt _ e).1;omega⟩
  ·intro e w3 hw;have hn:=hw.nb (w0:=w) O2 (xC.trans (B2.mono (zA HSB.out))) (zA HSB.out) B2.size;obtain⟨A',n',cap',rfl,hn⟩:=hn;have tG:=zi hn;go_wp2_with fail;go_ret;rw[VY.out];exact⟨_,_,_,rfl,tG⟩
 ·by_cases k4:kind=4
  ·have q1:((kind:Int)==1)=false:=b9.2 zo;have q4:((kind:Int)==4)=true:=by rw[k4];rfl
   obtain⟨x,rfl⟩:=h4 k4;have uc:(0:Int)<(nr:Int):=by have:=HNR.out;simp at this;omega
   rw[aj k1,ah k4,dR,uN,dH]at VY;clear k1 k4 h4;have dm:=jB (f:=vc) (s:=3) (λ_=>rfl) [x] 0 x rfl;obtain⟨b,off,rfl,g0⟩:=HSR.dm _ _ (dm 0 zo);simp only[Nat.zero_mul,cI]at g0;go_enter Tryz.func188,Tryz.ntmps188;go_wp2_with fail;refine HSH.mono ?_;rintro e w2 ⟨v2,rfl,o2,m2⟩;have b2:=fJ.trans (m2.gV O1 (by rw[<-tC];simp));obtain⟨d0,d1,d2,d3⟩:=eh (rK.aa b2 rK.lt);have nX:=HSR.aa b2;have e0:=nX.cell _ _ (dm 0 zo);have e1:=nX.cell _ _ (dm 1 zo);have e2:=nX.cell _ _ (dm 2 zo);simp only[Nat.zero_mul,bZ,cI]at e0 e1 e2;obtain⟨B2,O2⟩:=dz b2 o2;clear m2 o2 b2 nX;go_wp2_with fail;refine(JG v2 _ x wb.heap.size w2 O2 B2.size (zA HL.out) (HRB.out x zu)).mono ?_;intro e w3 hw;have hn:=hw.nb (w0:=w) O2 (xC.trans (B2.mono (zA HSB.out))) (zA HSB.out) B2.size;obtain⟨A',n',cap',rfl,hn⟩:=hn;have tG:=zi hn;go_wp2_with fail;go_ret;rw[VY.out];exact⟨_,_,_,rfl,tG⟩
  ·have q1:((kind:Int)==1)=false:=b9.2 zo;have q4:((kind:Int)==4)=false:=b9.2 zo;rw[aj k1,aj k4]at VY;clear k1 k4 h4;go_enter Tryz.func188,Tryz.ntmps188;go_wp2_with fail;refine HSH.mono ?_;rintro e w2 ⟨v2,rfl,o2,m2⟩;have b2:=fJ.trans (m2.gV O1 (by rw[<-tC];simp));obtain⟨d0,d1,d2,d3⟩:=eh (rK.aa b2 rK.lt);obtain⟨B2,O2⟩:=dz b2 o2;clear m2 o2 b2;go_wp2_with fail;have nT:=λh=>HU v2 _ Ar cr row wb.heap.size w2 O2 B2.size (zA HL.out) (HSR.aa B2.out) h HRB.out (zA HNR.out);rw[HNR.out]at nT;refine(nT (λp hp=>?_)).mono ?_
   ·have h1:=HP.out _ (HPR p hp);have h2:=HSB.out;have h3:=B2.size;exact⟨zo,λe=>by have:=(O2.lt _ e).1;omega⟩
   ·intro e w3 hw;have hn:=hw.nb (w0:=w) O2 (xC.trans (B2.mono (zA HSB.out))) (zA HSB.out) B2.size;obtain⟨A',n',cap',rfl,hn⟩:=hn;have tG:=zi hn;go_wp2_with fail;go_ret;rw[VY.out];exact⟨_,_,_,rfl,tG⟩
theorem Kw(h:ks[k]?=some x):Pl.lD (ks.take (k+1))=Pl.lD (ks.take k)+(5+x.length):=by
 rw[eK,h];have:=Pl.gC (ks.take k) [x];have e:=Pl.rp x [];have e0:Pl.lD []=6:=rfl
 grind
theorem FX(ks:List Pl.Key)(k:Nat):Pl.lD (ks.take k)<=Pl.lD ks:=by
 have:=Pl.gC (ks.take k) (ks.drop k);rw[di]at this;have h6:6<=Pl.lD (ks.drop k):=by unfold Pl.lD;omega
 omega
theorem jr(ks:List Pl.Key):ks.length*5+6<=Pl.lD ks:=by
 induction ks with
 |nil=>simp[Pl.lD]
 |cons a r ih=>simp[Pl.lD]at ih|-;omega
theorem vJ(h:ks[k]?=some x):(bo ks)[k]?=some (.string (ar x)):=by unfold bo;grind
theorem iX{rs:List Nat}{x:Nat}(h:rs[k]?=some x):(aS rs)[k]?=some (dJ x):=by unfold aS;grind
theorem VR(h:x∈ks):x.length+11<=Pl.lD ks:=by
 induction ks with
 |nil=>cases h
 |cons a r ih=>
  rw[Pl.rp];rcases cV.1 h with rfl|h
  ·have h6:6<=Pl.lD r:=by unfold Pl.lD;omega
   omega
  grind
theorem Ll(b:Nat)(ks:List Pl.Key)(rs:List Nat)(w:World)(h:dZ w b ks rs)(hsz:Pl.lD ks<=1000):
 bG 336 #[.pointer (some ⟨b,0,none⟩)] w λe w'=>e= .returned (.int .i64 (Pl.lD ks:Nat))/\w=w':=by
 obtain⟨A,aB,A',cap',hb,hc,hc',hs,TU⟩:=h;obtain⟨n,hn⟩:=ze ks.length;have bU:=jr ks;have afF:n<=500:=zo;have HS:=hs.1;obtain⟨c0,c1,_,_⟩:=aO hb;rw[hn]at c0;go_enter Tryz.func336,Tryz.ntmps336;go_wp2_with fail
 go_loop [3,11] (λt i=>∃k:Nat,k<=n/\i= .int .i64 (k:Int)/\t= .int .i64 (Pl.lD (ks.take k):Nat)) (λ_ i=>n-(intOf i).toNat)
 case atStart=>exact⟨0,aM _,rfl,rfl⟩
 case round=>
  obtain⟨k,hk,rfl,rfl⟩:=hrel;by_cases pX:k<n
  ·have q1:(k:Int)<(n:Int):=zo;obtain⟨x,hx⟩:∃p,ks[k]?=some p:=⟨_,aF (by rw[hn];exact pX)⟩;have hxm:=bO hx;obtain⟨b2,off,rfl,g0⟩:=HS.dm _ _ (vJ hx);have uB:(Pl.lD (ks.take (k+1))=Pl.lD (ks.take k)+(5+x.length)):=Kw hx;have hle:=FX ks (k+1);have NW:=VR hxm;have hxs:(ar x).size=x.length:=bK x;obtain⟨t,ht⟩:=ze (Pl.lD (ks.take k));have J6:t+x.length<=1000:=zC uB hsz;rw[ht];go_wp2_with fail
   go_round
   case rel=>exact⟨k+1,zo,zu,by rw[uB,ht];simp⟩
   case measure=>simp[intOf];omega
  ·go_wp2_with fail;go_ret;have:k=n:=zo;subst this;have e:=gN (l:=ks);rw[hn]at e;exact⟨by rw[e];rfl,rfl⟩
theorem Tryz.Hf:(Go.method 570 343 (.pointer (some a)) "daybook/tree.size").run Tryz.prog w= .ok (384,.pointer (some a)) w:=zp
theorem Tryz.Gf:(Go.method 570 377 (.pointer (some a)) "daybook/tree.size").run Tryz.prog w= .ok (336,.pointer (some a)) w:=zp
theorem Tryz.Hk:(Go.method 570 343 (.pointer (some a)) "daybook/tree.text").run Tryz.prog w= .ok (385,.pointer (some a)) w:=zp
theorem UQ(b:Nat)(ps:List Pl.Pr)(w:World)(h:fZ w b ps)(hsz:Pl.j5 ps<=1000):
 bG 333 #[fR b] w λe w'=>e= .returned (.bool (decide (Pl.j5 ps<85)))/\dP w w':=by
 have H:=Zk b ps w h hsz;have M1:=Tryz.Hf;obtain⟨n,hn⟩:=ze (Pl.j5 ps);rw[hn]at H|-
 unfold fR;cases hd:decide (n<85)
 all_goals
  have hd':decide ((n:Int)<85)=decide (n<85):=by congr 1;exact propext zo
  rw[hd]at hd';go_enter Tryz.func333,Tryz.ntmps333;go_wp2_with fail;refine H.mono ?_;rintro e w1 ⟨rfl,hb⟩;go_wp2_with fail;go_ret;exact⟨rfl,hb⟩
theorem SI(b:Nat)(ks:List Pl.Key)(rs:List Nat)(w:World)(h:dZ w b ks rs)(hsz:Pl.lD ks<=1000):
 bG 333 #[eG b] w λe w'=>e= .returned (.bool (decide (Pl.lD ks<85)))/\w=w':=by
 have H:=Ll b ks rs w h hsz;have M1:=Tryz.Gf;obtain⟨n,hn⟩:=ze (Pl.lD ks);rw[hn]at H|-
 unfold eG;cases hd:decide (n<85)
 all_goals
  have hd':decide ((n:Int)<85)=decide (n<85):=by congr 1;exact propext zo
  rw[hd]at hd';go_enter Tryz.func333,Tryz.ntmps333;go_wp2_with fail;refine H.mono ?_;rintro e w1 ⟨rfl,rfl⟩;go_wp2_with fail;go_ret;exact⟨rfl,rfl⟩
section
variable {ops:Array Oper} {o:Oper} {a:Act} {K:Act->World->Prop} {Q:Exit->Act->World->Prop} {w:World} {E:Prop}
theorem Ss(qO:o.guard=none)(s x:Operand)(ho:o.op= .call {callee:= .builtin .append,args:= #[s,x],argTypes:= #[29,9]}){aq:Nat}{v:Value}{l:List UInt8}(hs:a.eval s=v)(bI:Ob w aq v l)
 (news:List UInt8) (hx:a.eval x= .string (ar news)) (hl:l.length+news.length<=70368744177664) (hb:aq<=w.heap.size)
 (h:∀v' w',Ob w' aq v' (l++news)->Mv w w' v v'->K (a.put o.dst v') w'):if Region.wanted o (yielded ops a.tmps)=true then Oper.wp Tryz.prog o a w K Q else E:=by
 rw[ah (by simp[Region.wanted,qO])];exact acm s x ho hs bI news hx hl hb h
end
theorem Lz(w:World)(c:Nat)(hc:c<256):pC (w.alloc (.cells #[.int .u8 (c:Int)] 5 (1,2))) w.heap.size 5 1 (.slice (some ⟨w.heap.size,0,none⟩) 1 1) 1 (bv [UInt8.ofNat c]):=by
 refine .inr ⟨rfl,_,_,rfl,.inr ⟨_,_,rfl,λj u hu=>?_⟩⟩;rw[bZ,mF _ _ _ _ _ _ (heap_alloc_new w _)];have:bv [UInt8.ofNat c]=[.int .u8 (c:Int)]:=by simp[bv];omega
 grind
theorem vi(ps:List Pl.Pr):(ps.flatMap Pl.xW).length+3=Pl.j5 ps:=by
 induction ps with
 |nil=>rfl
 |cons a r ih=>
  rw[dR,ax];simp[Pl.j5,Pl.xW,Pl.short,Pl.tL]at ih|-
  omega
theorem aad(b:Nat)(ps:List Pl.Pr)(w:World)(h:fZ w b ps)(hsz:Pl.j5 ps<=1000)(hp:∀p∈ps,p.key.length<256/\p.val.length<256):
 bG 385 #[.pointer (some ⟨b,0,none⟩)] w λe w'=>e= .returned (.string (ar (Pl.eV ps)))/\dP w w':=by
 obtain⟨A,aB,hb,hc,hs,ht⟩:=h;obtain⟨n,hn⟩:=ze ps.length;have bU:=iP ps;have afF:n<=500:=zo;obtain⟨w0,Lt,pL⟩:=zF w (.cells #[.int .u8 108] 5 (1,2));have Dt:pC w0 w.heap.size 5 1 (.slice (some ⟨w.heap.size,0,none⟩) 1 1) 1 (bv [108]):=by rw[<-Lt];exact Lz w 108 zo
 have acD:=mw (.slice (some ⟨w.heap.size,0,none⟩) 1 1) 1 [108] n 2 w.heap.size w0 Dt pL.size zo zo zo zo;have hm:=kO (P:=Tryz.prog) w 29 5 #[.int .u8 108] 1 Tryz.underlying29 Tryz.underlying5 rfl;rw[Lt]at hm;obtain⟨HN,HP⟩:=dz hn hp;have SG:=hb.aa pL hb.lt;obtain⟨c0,_⟩:=bP SG;rw[hn]at c0;clear hn bU hp;go_enter Tryz.func385,Tryz.ntmps385;go_wp2_with fail;refine acD.mono ?_;rintro e w1 ⟨v1,rfl,mU,aI,Sn⟩;have uX:Ob w1 w.heap.size v1 (108::Pl.be 2 n):=by
  have:(108::Pl.be 2 n:List UInt8).length=1+2:=by simp[Pl.aG]
  rw[Ob,this];exact mU
 have PW:=pL.trans aI;have aox:=hb.aa PW hb.lt;obtain⟨c0,_⟩:=bP aox;rw[HN.out]at c0;go_wp2_with fail;obtain⟨l0,ZD⟩:=ze ((108::Pl.be 2 n:List UInt8));have HL0:(l0.length=3):=by rw[<-ZD];simp[Pl.aG]
 rw[ZD]at uX;have aqL:=zi ZD;obtain⟨bs,tA⟩:=ze w.heap.size;rw[tA]at uX;have U9:=zi tA;clear ZD tA
 go_loopw [3,20] (λu i wr=>∃k:Nat,k<=n/\i= .int .i64 (k:Int)/\Hid (Ob wr bs u (l0++(ps.take k).flatMap Pl.xW))/\Hid (Below w.heap.size w wr)) (λ_ i _=>n-(intOf i).toNat)
 case atStart=>exact⟨0,aM _,rfl,(by simpa [Hid] using uX:Hid _),PW⟩
 case round=>
  obtain⟨k,hk,rfl,HO,HM⟩:=hrel;by_cases pX:k<n
  ·have q1:(k:Int)<(n:Int):=zo;obtain⟨p,hp⟩:∃p,ps[k]?=some p:=⟨_,aF (by rw[HN.out];exact pX)⟩;have dm:=jB (f:=gQ) (s:=2) (λ_=>rfl) ps k p hp;have mM:=hs.aa HM;obtain⟨b2,off,rfl,g0⟩:=mM.dm _ _ (dm 0 zo);have g1:=mM.cell _ _ (dm 1 zo);rw[<-ew]at g1;rw[cI]at g0;have hpb:=HP.out p (bO hp);have bU:Hid ((l0++(ps.take k).flatMap Pl.xW).length<=1000):=by have h1:=vi (ps.take k);have h2:=xu ps k;have h3:=hsz;have h4:=HL0;rw[Hid,ax];omega
   have Xx:=zi hp;obtain⟨key,val⟩:=p;obtain⟨vL,qG⟩:=hpb;dsimp only at g0 g1 vL qG;obtain⟨lk,mW⟩:=ze (l0++(ps.take k).flatMap Pl.xW);rw[mW]at HO bU;have YF:=zi mW;obtain⟨g6,Ai⟩:=ze wr.heap.size;obtain⟨wb,p9⟩:=ze (wr.alloc (.cells #[.string (ar key),.string (ar val)] 399));have BB:=zB p9 Ai;have obb:Ob wb bs u3 lk:=by rw[<-p9];exact HO.alloc _
   have dM:=zb p9;have hne:u3.ownBlock≠some g6:=λe=>by have:=(HO.lt g6 e).2;omega
   have de:bs<=wb.heap.size:=zD HM.size dM.size U9.out;obtain⟨c0',c1',_,_⟩:=aO BB;have rP:(ar key).size=key.length:=bK key;have hv1:(ar val).size=val.length:=bK val;obtain⟨kn,EM⟩:=ze key.length;obtain⟨vn,Sl⟩:=ze val.length;rw[EM]at rP vL;rw[Sl]at hv1 qG;have wk:=wrap_u8 vL;have wv:=wrap_u8 qG;obtain⟨KN,VN⟩:=dz EM Sl;have H1:=(show Ob (wb.alloc (.cells #[.int .u8 (kn:Int)] 5)).drew bs u3 lk from obb.alloc _);have H2:=(show Src (wb.alloc (.cells #[.int .u8 (kn:Int)] 5)).drew (some ⟨wb.heap.size,0,none⟩) (bv [UInt8.ofNat kn])from lH wb kn vL);have S0:=And.intro c0' c1';have S1:=(show(wb.alloc (.cells #[.int .u8 (kn:Int)] 5)).drew.cell? ⟨g6,0,none⟩=some (.string (ar key))/\(wb.alloc (.cells #[.int .u8 (kn:Int)] 5)).drew.cell? ⟨g6,1,none⟩=some (.string (ar val))from⟨(BB.alloc _).cell 0,(BB.alloc _).cell 1⟩);clear hp mW EM Sl;go_wp2_with fail
   go_region_held3 (λW:World=>W.cell? ⟨g6,0,none⟩=some (.string (ar key))/\W.cell? ⟨g6,1,none⟩=some (.string (ar val))) (first|exact S0|exact S1|exact S2|exact S3) (first
    |(refine GR rfl (.tmp 24) (.tmp 29) rfl rfl H1 (some ⟨wb.heap.size,0,none⟩) 1 1 [UInt8.ofNat kn] rfl rfl H2 (zA bU.out) (ao de zu) ?_
      intro v2 w2 o2 m2;have B2:=(m2.only.aC (BB.alloc (.cells #[.int .u8 (kn:Int)] 5)).drew hne);have S2:=And.intro (B2.cell 0) (B2.cell 1);have O2:=o2;have M2:=m2;clear o2 m2)
    |(refine Ss rfl (.tmp 30) (.tmp 32) rfl rfl O2 key rfl (by have:=bU.out;have:=KN.out;rw[ax,dy];omega) (ao (ao de zu) M2.1.size) ?_
      intro v3 w3 o3 m3;have B3:=m3.only.aC B2 (M2.2 g6 (by have:=BB.lt;simp;omega) hne);have S3:=And.intro (B3.cell 0) (B3.cell 1);obtain⟨O3,M3⟩:=dz o3 m3;clear o3 m3)
    |fail)
   obtain⟨l3,rN⟩:=ze (lk++ [UInt8.ofNat kn]++key);rw[rN]at O3;have HL3:Hid (l3=lk++Pl.short key):=by rw[Hid,<-rN,cJ];unfold Pl.short;rw[KN.out];rfl
   have amg:Hid (l3.length<=1300):=by rw[HL3.out,Hid,ax];unfold Pl.short;have:=bU.out;have:=KN.out;simp only[bE];omega
   have agw:(v3.ownBlock≠some g6):=M3.2 g6 (aK (by have:=BB.lt;simp;omega) M2.1.size) (M2.2 g6 (by have:=BB.lt;simp;omega) hne);have sM:(bs<=w3.heap.size):=ao (ao (ao de zu) M2.1.size) M3.1.size;have K1:=(show Ob (w3.alloc (.cells #[.int .u8 (vn:Int)] 5)).drew bs v3 l3 from O3.alloc _);have K2:=(show Src (w3.alloc (.cells #[.int .u8 (vn:Int)] 5)).drew (some ⟨w3.heap.size,0,none⟩) (bv [UInt8.ofNat vn])from lH w3 vn qG);have T1:=(show(w3.alloc (.cells #[.int .u8 (vn:Int)] 5)).drew.cell? ⟨g6,0,none⟩=some (.string (ar key))/\(w3.alloc (.cells #[.int .u8 (vn:Int)] 5)).drew.cell? ⟨g6,1,none⟩=some (.string (ar val))from⟨(B3.alloc _).cell 0,(B3.alloc _).cell 1⟩);have MM3:Hid (Mv wr w3 u3 v3):=Mv.before dM (((Mv.refl wb u3).alloc (.cells #[.int .u8 (kn:Int)] 5)).drew.trans (M2.trans M3)) HO;have d0:=S3.1;have d1:=S3.2;clear M3;go_wp2_with fail
   go_region_held3 (λW:World=>W.cell? ⟨g6,0,none⟩=some (.string (ar key))/\W.cell? ⟨g6,1,none⟩=some (.string (ar val))) (first|exact S3|exact T1|exact S4|exact S5) (first
    |(refine GR rfl (.tmp 34) (.tmp 39) rfl rfl K1 (some ⟨w3.heap.size,0,none⟩) 1 1 [UInt8.ofNat vn] rfl rfl K2 (zA amg.out) (ao sM zu) ?_
      intro v4 w4 o4 m4;have B4:=(m4.only.aC (B3.alloc (.cells #[.int .u8 (vn:Int)] 5)).drew agw);have S4:=And.intro (B4.cell 0) (B4.cell 1);have O4:=o4;have M4:=zi m4;clear o4 m4)
    |(refine Ss rfl (.tmp 40) (.tmp 42) rfl rfl O4 val rfl (by have:=amg.out;have:=VN.out;rw[ax,dy];omega) (ao (ao sM zu) M4.1.size) ?_
      intro v5 w5 o5 m5;have B5:=m5.only.aC B4 (M4.2 g6 (by have:=B3.lt;simp;omega) agw);have S5:=And.intro (B5.cell 0) (B5.cell 1);obtain⟨O5,M5⟩:=dz o5 m5;clear o5 m5)
    |fail)
   have O6:Hid (Ob w5 bs v5 (l0++(ps.take (k+1)).flatMap Pl.xW)):=by
    have e:lk++Pl.short key++ [UInt8.ofNat vn]++val=l0++(ps.take (k+1)).flatMap Pl.xW:=by rw[tS _ Xx.out,<-cJ,YF.out];unfold Pl.xW Pl.short;rw[VN.out];simp
    rw[Hid,<-e,<-HL3.out];exact O5
   have MM5:Hid (Mv wr w5 u3 v5):=MM3.trans (((Mv.refl w3 v3).alloc (.cells #[.int .u8 (vn:Int)] 5)).drew.trans (M4.trans M5));have aft:Hid (Below w.heap.size w w5):=HM.trans ((MM5.gV HO (zC HM.size U9.out)).mono (zA U9.out));clear O5 M4 M5 O3 MM3;go_wp2_with fail;exact⟨⟨k+1,zo,by go_num,O6,aft⟩,by simp[intOf];omega⟩
  ·obtain rfl:k=n:=zo;have kJ:Hid (Ob wr bs u3 (Pl.eV ps)):=by have:=HO.out;rw[dx (by rw[HN.out];exact ai _)]at this;rw[Hid];unfold Pl.eV;rw[HN.out,<-eu,aqL.out];exact this
   obtain⟨A3,mL,e3,J8,bg,_⟩:=kJ.bytes;have HCV:=dQ wr A3 (Pl.eV ps) mL bg;subst e3;have hle:Hid ((Pl.eV ps).length<=1000):=by have:=vi ps;rw[Hid];unfold Pl.eV;rw[bE,ax,Pl.aG];have:=hsz;omega
   clear kJ;go_wp2_with fail;go_ret;exact⟨rfl,HM⟩
def OC(w:World)(rs ats:List Nat):Prop:=rs.length=ats.length/\∀(i r a:Nat),rs[i]?=some r->ats[i]?=some a->∃pv,ay w r 265 [.int .i64 (a:Nat),pv]
theorem OC.aa{w w':World}{rs ats:List Nat}(h:OC w rs ats)(hb:dP w w'):OC w' rs ats:=
 ⟨h.1,λi r a h1 h2=>by obtain⟨pv,hv⟩:=h.2 i r a h1 h2;exact⟨pv,hv.aa hb hv.lt⟩⟩
theorem dZ.refs{w:World}{b:Nat}{ks:List Pl.Key}{rs:List Nat}(h:dZ w b ks rs):∃A aB A' cap',ay w b 383 [.slice A ks.length aB,.slice A' rs.length cap']/\Src w A (bo ks)/\Src w A' (aS rs):=by obtain⟨A,aB,A',cap',hb,hc,hc',hs,TU⟩:=h;exact⟨A,aB,A',cap',hb,hs.1,TU.1⟩
theorem QF(xs:List (Pl.Key×Nat)):(xs.flatMap Pl.Ij).length+6=Pl.lD (xs.map Prod.fst):=by
 induction xs with
 |nil=>rfl
 |cons a r ih=>
  rw[dR,ax,jf,Pl.rp];simp[Pl.Ij,Pl.short,Pl.aG]at ih|-
  omega
def Fr{α:Type}(R:World->(Nat->Prop)->List Value->α->Prop):Prop:=
 ∀(F P P':Nat->Prop) (w w':World) (c:List Value) (x:α),R w P c x->ag F w w'->(∀b,P b->¬F b)->(∀b,P b->P' b)->R w' P' c x
def OL{α:Type}(e:TypeId)(s:Nat)(R:World->(Nat->Prop)->List Value->α->Prop)(w:World)(aq:Nat)(v:Value)(xs:List α):Prop:=
 ∃cs,w.ownsRow aq e s v xs.length cs/\fW s (R w (λb=>aq<=b/\b<w.heap.size/\v.ownBlock≠some b)) cs xs
section
variable {α:Type} {e:TypeId} {s:Nat} {R:World->(Nat->Prop)->List Value->α->Prop} {w w':World} {aq:Nat} {v:Value} {xs:List α}
variable {P:Program} {o:Oper} {a:Act} {K:Act->World->Prop} {Q:Exit->Act->World->Prop} {i:TypeInfo} {z:Value} {bytes:Nat} {ops:Array Oper}
theorem OL.nil(w:World)(aq:Nat):OL e s R w aq (.slice none 0 0) []:=⟨[],dA _ _ _ _,fW.nil _ _⟩
theorem OL.only{F:Nat->Prop}(fr:Fr R)(h:OL e s R w aq v xs)(ho:ag F w w')(hF:∀x,aq<=x->x<w.heap.size->¬F x):OL e s R w' aq v xs:=by obtain⟨cs,h1,h2⟩:=h;exact⟨cs,ho.own h1 (λg hg=>hF g (h1.lt g hg).1 (h1.lt g hg).2),h2.mono (λ_ _ _ h=>fr F _ _ w w' _ _ h ho zw (λb hb=>⟨hb.1,aK hb.2.1 ho.size,hb.2.2⟩))⟩
theorem OL.aa(fr:Fr R)(h:OL e s R w aq v xs)(hb:dP w w'):OL e s R w' aq v xs:=h.only fr (ag.ae hb (λ_=>False)) zu
theorem OL.low{Sy:Nat}(fr:Fr R)(h:OL e s R w aq v xs)(hb:Sy<=aq):OL e s R w Sy v xs:=by obtain⟨cs,h1,h2⟩:=h;exact⟨cs,wV h1 hb,h2.mono (λ_ _ _ h=>fr (λ_=>False) _ _ w w _ _ h (ag.refl _ _) zu zw)⟩
theorem OL.lt(h:OL e s R w aq v xs):∀g,v.ownBlock=some g->aq<=g/\g<w.heap.size:=by obtain⟨cs,h1,_⟩:=h;exact h1.lt
theorem OL.src(fr:Fr R)(h:OL e s R w aq v xs):∃A aB cs,v= .slice A xs.length aB/\xs.length<=aB/\Src w A cs/\fW s (R w (λb=>aq<=b/\b<w.heap.size)) cs xs/\(∀p,A=some p->aq<=p.block/\p.block<w.heap.size):=by obtain⟨cs,h1,h2⟩:=h;obtain⟨A,aB,rfl,h3,h4,h5⟩:=bJ h1;exact⟨A,aB,cs,rfl,h3,h4,h2.mono (λ_ _ _ h=>fr (λ_=>False) _ _ w w _ _ h (ag.refl _ _) zu zw),λp hp=>h1.lt _ zw⟩
theorem aic(fr:Fr R)(sl x:Operand)(t:TypeId)
 (ho:o.op= .call {callee:= .builtin .append,args:= #[sl,x],argTypes:= #[t,t]})    (ht:P.underlying t=some (.slice e)) (hi:P.info? e=some i) (hz:i.zero=some z)
 (jE:i.size=s) (pr:i.bytes=bytes) (Ev:z.cells.size=s) (hsz:0<s) (hs:a.eval sl=v) (h:OL e s R w aq v xs)
 (A:Option Addr) (aB:Nat) (c:List Value) (x0:α) (hx:a.eval x= .slice A 1 aB) (hc:c.length=s) (hr:Src w A c) (h1:∀u∈c,u.oneCell'=true) (hR:R w (λb=>aq<=b/\b<w.heap.size/\v.ownBlock≠some b) c x0)
 (hl:xs.length<=4294967296) (dM:bytes<=1024) (de:aq<=w.heap.size)
 (hK:∀v' w',OL e s R w' aq v' (xs++ [x0])->Mv w w' v v'->K (a.put o.dst v') w'):o.wp P a w K Q:=by
 obtain⟨cs,h2,h3⟩:=h;refine j7 w sl x t ho aq e i z s bytes ht hi hz jE pr Ev hsz v xs.length cs hs h2 A 1 aB c hx zo hr h1 (by simp only[maxLen];omega) (λold ho=>?_) de (λv' w' h4 h5 h6=>hK v' w' ?_ ?_)
 ·have:=ig ho
  calc Builtin.nextslicecap (xs.length+1) old*bytes<=6000000000*1024:=Nat.mul_le_mul zo dM
   _<=_:=zo
 ·have pQ:ag (λk=>v.ownBlock=some k) w w':=⟨h5.os,h5.tape,h5.output,h5.size,λk hk hn=>h5.block k hk (λe=>zw)⟩;have hP:∀b,(aq<=b/\b<w.heap.size/\v.ownBlock≠some b)->(aq<=b/\b<w'.heap.size/\v'.ownBlock≠some b):=λb hb=>⟨hb.1,aK hb.2.1 h5.size,λe=>by
   grind⟩
  refine⟨cs++c,zw,fW.snoc (h3.mono (λ_ _ _ h=>fr _ _ _ w w' _ _ h pQ zu hP)) hc (fr _ _ _ w w' _ _ hR pQ zu hP)⟩
 ·refine⟨h5,λk hk hn=>?_⟩;rcases h6 with e'|e'
  ·rw[e'];exact hn
  ·rw[e'];intro e;injection e;omega
theorem oW{rest:List Oper}(fr:Fr R)(qO:o.guard=none)(sl x:Operand)(t:TypeId)
 (ho:o.op= .call {callee:= .builtin .append,args:= #[sl,x],argTypes:= #[t,t]})    (ht:P.underlying t=some (.slice e)) (hi:P.info? e=some i) (hz:i.zero=some z)
 (jE:i.size=s) (pr:i.bytes=bytes) (Ev:z.cells.size=s) (hsz:0<s) (hs:a.eval sl=v) (h:OL e s R w aq v xs)
 (A:Option Addr) (aB:Nat) (c:List Value) (x0:α) (hx:a.eval x= .slice A 1 aB) (hc:c.length=s) (hr:Src w A c) (h1:∀u∈c,u.oneCell'=true) (hR:R w (λb=>aq<=b/\b<w.heap.size/\v.ownBlock≠some b) c x0)
 (hl:xs.length<=4294967296) (dM:bytes<=1024) (de:aq<=w.heap.size)
 (hK:∀v' w',OL e s R w' aq v' (xs++ [x0])->Mv w w' v v'->wpList P ops Q rest (a.put o.dst v') w'):wpList P ops Q (o::rest) a w:=
 oS qO λ_ hk=>aic fr sl x t ho ht hi hz jE pr Ev hsz hs h A aB c x0 hx hc hr h1 hR hl dM de λv' w' h1 h2=>hk _ _ (hK v' w' h1 h2)
theorem YT{E:Prop}(fr:Fr R)(qO:o.guard=none)(sl x:Operand)(t:TypeId)
 (ho:o.op= .call {callee:= .builtin .append,args:= #[sl,x],argTypes:= #[t,t]})    (ht:P.underlying t=some (.slice e)) (hi:P.info? e=some i) (hz:i.zero=some z)
 (jE:i.size=s) (pr:i.bytes=bytes) (Ev:z.cells.size=s) (hsz:0<s) (hs:a.eval sl=v) (h:OL e s R w aq v xs)
 (A:Option Addr) (aB:Nat) (c:List Value) (x0:α) (hx:a.eval x= .slice A 1 aB) (hc:c.length=s) (hr:Src w A c) (h1:∀u∈c,u.oneCell'=true) (hR:R w (λb=>aq<=b/\b<w.heap.size/\v.ownBlock≠some b) c x0)
 (hl:xs.length<=4294967296) (dM:bytes<=1024) (de:aq<=w.heap.size)
 (hK:∀v' w',OL e s R w' aq v' (xs++ [x0])->Mv w w' v v'->K (a.put o.dst v') w'):if Region.wanted o (yielded ops a.tmps)=true then Oper.wp P o a w K Q else E:=by
 rw[ah (by simp[Region.wanted,qO])];exact aic fr sl x t ho ht hi hz jE pr Ev hsz hs h A aB c x0 hx hc hr h1 hR hl dM de hK
end
variable {A:Option Addr}
variable (w:World) (g n:Nat) (l:List UInt8) (bad:Bool)
def um(P:Nat->Prop)(c:List Value)(l:List UInt8):Prop:=∃A aB,c=[.slice A l.length aB]/\l.length<=aB/\l.length<=140737488351232/\aw w A l/\∀p,A=some p->P p.block
theorem um.fr:Fr um:=λ_ _ _ _ _ _ _ ⟨A,aB,h1,h2,h3,h4,h5⟩ ho hF hP=>⟨A,aB,h1,h2,h3,ho.bytes h4 zS,zS⟩
theorem vY.fr:Fr vY:=λ_ _ _ _ _ _ _ h ho hF hP=>(h.only ho hF).mono hP
abbrev BL:=OL 29 1 um
theorem fW.bb{w:World}{P:Nat->Prop}{cs:List Value}{ls:List (List UInt8)}(h:fW 1 (um w P) cs ls)(hs:Src w A cs):BB w A ls:=by
 rcases hs with rfl|⟨b,off,rfl,hs⟩
 ·left;have:=h.1
  grind
 ·refine .inr ⟨b,off,rfl,λi l hl=>?_⟩;obtain⟨c,⟨A',aB,rfl,h2,h3,h4,h5⟩,_,hc⟩:=h.dm hl
  grind
theorem OL.bb{w:World}{aq:Nat}{v:Value}{ls:List (List UInt8)}(h:BL w aq v ls):∃A aB,v= .slice A ls.length aB/\ls.length<=aB/\BB w A ls:=by obtain⟨cs,h1,h2⟩:=h;obtain⟨A,aB,rfl,h3,h4,h5⟩:=bJ h1;exact⟨A,aB,rfl,h3,h2.bb h4⟩
theorem NB.slR{w w':World}{l:List UInt8}{n aB:Nat}(h:l.length=n/\n<=aB/\aw w' A l/\(∀p,A=some p->w.heap.size<=p.block/\p.block<w'.heap.size)/\dP w w')(hl:l.length<=140737488351232):um w' (λb=>w.heap.size<=b/\b<w'.heap.size) [.slice A n aB] l:=by obtain⟨rfl,h2,h3,h4,h5⟩:=h;exact⟨A,aB,rfl,h2,hl,h3,h4⟩
def Pa:Prop:=l.length<=140737488351232/\ay w g 396 [.string (ar l),.bool bad]
theorem Pa.aa{w w':World}{g:Nat}{l:List UInt8}{bad:Bool}(h:Pa w g l bad)(hb:dP w w'):Pa w' g l bad:=⟨h.1,h.2.aa hb h.2.lt⟩
theorem qx(w:World)(h:Pa w g l bad)(hn:n<=l.length):
 bG 285 #[.pointer (some ⟨g,0,none⟩),.int .i64 n] w λe w'=>e= .returned (.string (ar (l.take n)))/\Pa w' g (l.drop n) bad/\ag (·=g) w w':=by
 obtain⟨hm,hB⟩:=h;have c0:=hB.cell 0;have f0:=hB.frozen 0;simp only[au]at c0;have h1:=λw=>Ph w l n n rfl hn;have h2:=λw=>Oc w l n n rfl hn;have hsz:=bK l;obtain⟨st,hst⟩:=ze (ar l);rw[hst]at c0 h1 h2 hsz;have vL:¬(st.size:Int)<n:=zo;have qG:¬st.size<n:=zo;go_enter Tryz.func285,Tryz.ntmps285;go_wp2_with fail;go_ret;exact⟨rfl,⟨by rw[bT];omega,hB.bw 0 _⟩,(ag.refl (·=g) w).zs 0⟩
theorem pD(w:World)(h:Pa w g l bad)(hn:n<=l.length)(h7:n<=7):
 bG 286 #[.pointer (some ⟨g,0,none⟩),.int .i64 n] w λe w'=>e= .returned (.int .i64 (Pl.num (l.take n):Nat))/\Pa w' g (l.drop n) bad/\ag (·=g) w w':=by
 have H:=qx g n l bad w h hn;have bU:(l.take n).length<=7:=by rw[aP];omega
 have hlt:=Pl.Cj (l.take n);have Gt:Pl.num (l.take n)<72057594037927936:=aK hlt (jG (n:=256) (j:=7) zj bU);obtain⟨x,hx⟩:=ze (l.take n);rw[hx]at H bU Gt|-
 have H2:=λW=>pI x W zo;obtain⟨y,hy⟩:=ze (Pl.num x);rw[hy]at H2 Gt|-
 go_enter Tryz.func286,Tryz.ntmps286;go_wp2_with fail;refine H.mono ?_;rintro e w1 ⟨rfl,r1,o1⟩;go_wp2_with fail;refine(H2 _).mono ?_;rintro e w2 ⟨rfl,rfl⟩;go_wp2_with fail;go_ret;exact⟨rfl,r1,o1⟩
structure Elt(t e:TypeId)(s:Nat):Prop where
 under:Tryz.prog.underlying t=some (.slice e)
 info:∃i z,Tryz.prog.info? e=some i/\i.zero=some z/\i.size=s/\i.bytes<=64/\z.cells.size=s
 pos:0<s
theorem Tryz.gn:Elt 344 399 2:=by obtain⟨i,h1,h2,h3,h4⟩:=bV (show(Tryz.prog.info? 399).map (λi=>(i.zero,i.size,i.bytes))=some (some (.agg #[.string ⟨#[]⟩,.string ⟨#[]⟩]),2,32) by kernel_rfl);exact⟨Tryz.underlying344,⟨i,_,h1,h2,h3,zo,rfl⟩,zo⟩
theorem Tryz.ji:Elt 380 9 1:=by obtain⟨i,h1,h2,h3,h4⟩:=bV (show(Tryz.prog.info? 9).map (λi=>(i.zero,i.size,i.bytes))=some (some (.string ⟨#[]⟩),1,16) by kernel_rfl);exact⟨Tryz.underlying380,⟨i,_,h1,h2,h3,zo,rfl⟩,zo⟩
theorem Tryz.ou:Elt 381 160 1:=by obtain⟨i,h1,h2,h3,h4⟩:=bV (show(Tryz.prog.info? 160).map (λi=>(i.zero,i.size,i.bytes))=some (some (.pointer none),1,8) by kernel_rfl);exact⟨Tryz.underlying381,⟨i,_,h1,h2,h3,zo,rfl⟩,zo⟩
theorem Tryz.Yc:Elt 419 263 1:=by obtain⟨i,h1,h2,h3,h4⟩:=bV (show(Tryz.prog.info? 263).map (λi=>(i.zero,i.size,i.bytes))=some (some .nilIface,1,16) by kernel_rfl);exact⟨Tryz.underlying419,⟨i,_,h1,h2,h3,zo,rfl⟩,zo⟩
def Rw(e:TypeId)(s:Nat)(w:World)(aq:Nat)(v:Value)(n:Nat)(cs:List Value):Prop:=w.ownsRow aq e s v n cs
section
variable {e:TypeId} {s:Nat} {w w':World} {aq:Nat} {v:Value} {n:Nat} {cs:List Value}
variable {a:Act} {u x:Value} {aq n:Nat} {cs:List Value} {o:Oper} {K:Act->World->Prop} {Q:Exit->Act->World->Prop} {t:TypeId} {ops:Array Oper}
theorem Rw.nil(w:World)(aq:Nat):Rw e s w aq (.slice none 0 0) 0 []:=dA _ _ _ _
theorem Rw.alloc(h:Rw e s w aq v n cs)(o:Obj):Rw e s (w.alloc o) aq v n cs:=World.ownsRow.alloc h o
theorem Rw.only{F:Nat->Prop}(h:Rw e s w aq v n cs)(ho:ag F w w')(hv:∀g,v.ownBlock=some g->¬F g):Rw e s w' aq v n cs:=ho.own h hv
theorem Rw.aa(h:Rw e s w aq v n cs)(k:dP w w'):Rw e s w' aq v n cs:=(ag.ae k (λ_=>False)).own h zu
theorem Rw.eo(h:Rw e s w aq v n cs):∃A aB,v= .slice A n aB/\n<=aB/\dn w A cs e/\∀p,A=some p->aq<=p.block/\p.block<w.heap.size:=by obtain⟨A,aB,rfl,h3,h4,h5⟩:=bJ h;exact⟨A,aB,rfl,h3,⟨h4,λp hp=>dc h zw⟩,λp hp=>h.lt _ zw⟩
theorem Mv.sV{a b:World}(h:Mv a b u x)(ho:Rw e s a aq u n cs)(hb:aq<=a.heap.size):Below aq a b:=h.only.cW hb (λk hk e=>by have:=(ho.lt k e).1;omega)
theorem Mv.u9{a b c:World}{aq:Nat}{n:Nat}{cs:List Value}(h:dP a b)(k:Mv b c u x):Mv a c u x:=
 ⟨⟨k.1.os.trans h.os,k.1.tape.trans h.tape,k.1.output.trans h.output,ao h.size k.1.size,λi hi hn=>(k.1.block i (aK hi h.size) hn).trans (h.block i hi)⟩,λi hi hn=>k.2 i (aK hi h.size) hn⟩
theorem aik(el:Elt t e s)(sl x:Operand)
 (ho:o.op= .call {callee:= .builtin .append,args:= #[sl,x],argTypes:= #[t,t]}) (hs:a.eval sl=v) (h:Rw e s w aq v n cs)
 (A:Option Addr) (m aB:Nat) (c:List Value) (hx:a.eval x= .slice A m aB) (hc:c.length=m*s) (hr:Src w A c) (h1:∀u∈c,u.oneCell'=true)
 (hl:n+m<=4294967296) (de:aq<=w.heap.size)
 (hK:∀v' w',Rw e s w' aq v' (n+m) (cs++c)->Mv w w' v v'->K (a.put o.dst v') w'):o.wp Tryz.prog a w K Q:=by
 obtain⟨i,z,hi,hz,jE,pr,Ev⟩:=el.info;refine j7 w sl x t ho aq e i z s i.bytes el.under hi hz jE rfl Ev el.pos v n cs hs h A m aB c hx hc hr h1 (by simp only[maxLen];omega) (λold ho=>?_) de (λv' w' h4 h5 h6=>hK v' w' h4 ⟨h5,λk hk hn=>?_⟩)
 ·have:=ig ho
  calc Builtin.nextslicecap (n+m) old*i.bytes<=6000000000*64:=Nat.mul_le_mul zo pr
   _<=_:=zo
 ·rcases h6 with e'|e'
  ·rw[e'];exact hn
  ·rw[e'];intro e;injection e;omega
theorem du{rest:List Oper}(el:Elt t e s)(qO:o.guard=none)(sl x:Operand)
 (ho:o.op= .call {callee:= .builtin .append,args:= #[sl,x],argTypes:= #[t,t]}) (hs:a.eval sl=v) (h:Rw e s w aq v n cs)
 (A:Option Addr) (m aB:Nat) (c:List Value) (hx:a.eval x= .slice A m aB) (hc:c.length=m*s) (hr:Src w A c) (h1:∀u∈c,u.oneCell'=true)
 (hl:n+m<=4294967296) (de:aq<=w.heap.size)
 (hK:∀v' w',Rw e s w' aq v' (n+m) (cs++c)->Mv w w' v v'->wpList Tryz.prog ops Q rest (a.put o.dst v') w'):wpList Tryz.prog ops Q (o::rest) a w:=
 oS qO λ_ hk=>aik el sl x ho hs h A m aB c hx hc hr h1 hl de λv' w' h1 h2=>hk _ _ (hK v' w' h1 h2)
theorem fi{E:Prop}(el:Elt t e s)(qO:o.guard=none)(sl x:Operand)
 (ho:o.op= .call {callee:= .builtin .append,args:= #[sl,x],argTypes:= #[t,t]}) (hs:a.eval sl=v) (h:Rw e s w aq v n cs)
 (A:Option Addr) (m aB:Nat) (c:List Value) (hx:a.eval x= .slice A m aB) (hc:c.length=m*s) (hr:Src w A c) (h1:∀u∈c,u.oneCell'=true)
 (hl:n+m<=4294967296) (de:aq<=w.heap.size)
 (hK:∀v' w',Rw e s w' aq v' (n+m) (cs++c)->Mv w w' v v'->K (a.put o.dst v') w'):if Region.wanted o (yielded ops a.tmps)=true then Oper.wp Tryz.prog o a w K Q else E:=by
 rw[ah (by simp[Region.wanted,qO])];exact aik el sl x ho hs h A m aB c hx hc hr h1 hl de hK
end
variable (k x:Nat) (ps:List Pl.Pr) (r tail:List UInt8)
theorem dL:(bu ps).length=ps.length*2:=by
 unfold bu
 induction ps with
 |nil=>rfl
 |cons a r ih=>rw[dR,ax,ih,bE];simp[gQ];omega
theorem dp:∀u∈bu ps,u.oneCell'=true:=by intro u hu;obtain⟨p,_,hp⟩:=lQ.1 hu;simp only[gQ,cV,je,iU]at hp;rcases hp with rfl|rfl<;>rfl
theorem cZ(a b:List Pl.Pr):bu (a++b)=bu a++bu b:=by simp[bu]
theorem fU(ks:List Pl.Key):∀u∈bo ks,u.oneCell'=true:=by intro u hu;obtain⟨p,_,rfl⟩:=iE.1 hu;rfl
theorem eM(rs:List Nat):∀u∈aS rs,u.oneCell'=true:=by intro u hu;obtain⟨p,_,rfl⟩:=iE.1 hu;rfl
theorem xN{n k:Nat}(hk:n=k)(hx:x<256^k):Pl.num ((Pl.be k x++r).take n)=x:=by subst hk;rw[ik (Pl.aG n x),Pl.kq _ _ hx]
theorem MR:(Pl.be k x++r).drop k=r:=ke (Pl.aG k x)
theorem rF{x:Nat}(hx:x<256):Pl.num ((UInt8.ofNat x::r).take 1)=x:=by simp only[qq,re];exact Pl.num_ofNat hx
theorem pB(w:World)(p:Pl.Pr):Src (w.alloc (.cells #[.string (ar p.key),.string (ar p.val)] 399)) (some ⟨w.heap.size,0,none⟩) (gQ p):=Src.dE (ay.new w 399 _)
def As(k:Nat):List UInt8:=(ps.drop k).flatMap Pl.xW++tail
theorem aeO{ps:List Pl.Pr}{k:Nat}{p:Pl.Pr}(h:ps[k]?=some p):As ps tail k=UInt8.ofNat p.key.length::(p.key++(UInt8.ofNat p.val.length::(p.val++As ps tail (k+1)))):=by
 unfold As;have hd:ps.drop k=p::ps.drop (k+1):=by obtain⟨hlt,rfl⟩:=cR.1 h;simp
 rw[hd,dR];simp[Pl.xW,Pl.short]
theorem Ve(l:List UInt8)(w:World)(hl:l=Pl.eV ps++tail)(hsz:l.length<=1000)(hp:∀p∈ps,p.key.length<256/\p.val.length<256):
 bG 281 #[.string (ar l)] w λe w'=>∃b,e= .returned (fR b)/\fZ w' b ps/\w.heap.size<=b/\dP w w':=by
 obtain⟨n,hn⟩:=ze ps.length;have bU:n<=500:=by have h1:=vi ps;have h2:=iP ps;rw[hl,ax]at hsz;unfold Pl.eV at hsz;rw[bE,ax,Pl.aG]at hsz;omega
 have l7:l=108::(Pl.be 2 n++As ps tail 0):=by rw[hl];unfold Pl.eV As;rw[hn];simp
 obtain⟨w1,dj,aI⟩:=zF w (.cells #[.string (ar l),.bool false] 396);have pT:w1.heap.size=w.heap.size+1:=by rw[<-dj];simp
 obtain⟨gR,hgR⟩:=ze w.heap.size;have R1:Pa w1 gR l false:=⟨zo,by rw[<-dj,<-hgR];exact ay.new w 396 _⟩;have HT:=zi (qx gR 1 l false w1 R1 (by rw[l7];simp));have e1:ar (l.take 1)=⟨#[108]⟩:=by rw[l7];rfl
 have e2:l.drop 1=Pl.be 2 n++As ps tail 0:=by rw[l7];rfl
 rw[e1,e2]at HT;have HLE:Hid ((As ps tail 0).length<=1000):=by have:=hsz;rw[l7,bE,ax]at this;rw[Hid];omega
 have TZ:=zi hgR;clear hl l7 hsz R1 e1 e2;go_enter Tryz.func281,Tryz.ntmps281;go_wp2_with fail;refine HT.mono ?_;rintro e w2 ⟨rfl,r2,o2⟩;obtain⟨gL,w3,hgL,fX,bg,BL3⟩:=zE w2 346 [.slice none 0 0];have eY:=zi (o2.cW (B:=w.heap.size) aI.size (λk hk e=>by have:=TZ.out;omega));obtain⟨eI,R3⟩:=dz (aI.trans (eY.trans (bg.mono (ao aI.size eY.size)))) (r2.aa bg);have uc:n<65536:=zo;have tl:=pD gR 2 _ false w3 R3 (by simp[Pl.aG]) zo;rw[xN n (As ps tail 0) rfl zo,MR]at tl;obtain⟨tl,BL3,HGL⟩:=kt tl BL3 hgL;clear r2 o2 bg HT;go_wp2_with fail;refine tl.mono ?_;rintro e w4 ⟨rfl,r4,o4⟩;have hne:gL≠gR:=by have:=eY.size;have:=pT;have:=HGL.out;have:=TZ.out;have:=aI.size;have:=R3.2.lt;have:=o4.size;intro e;have h1:=R3.2.RI (e▸BL3.out);revert h1;decide
 obtain⟨BL4,ib⟩:=dz (o4.aC BL3 hne) (eI.trans (o4.cW (B:=w.heap.size) eI.size (λk hk e=>by have:=TZ.out;omega)));obtain⟨bs,tA⟩:=ze w4.heap.size;clear o4 tl dj fX;go_wp2_with fail
 go_loopw [5] (λi wr=>∃k:Nat,k<=n/\i= .int .i64 ((n:Int)-k)/\Hid (Pa wr gR (As ps tail k) false)/\Hid (Below w.heap.size w wr)/\Hid (bs<=wr.heap.size)/\
  ∃v,Hid (ay wr gL 346 [v])/\Hid (Rw 399 2 wr bs v k (bu (ps.take k)))) (λi _=>(intOf i).toNat)
 case atStart=>exact⟨0,aM _,zu,r4,ib,(gF tA.symm:bs<=w4.heap.size),_,BL4,Rw.nil _ _⟩
 case round=>
  obtain⟨k,hk,rfl,HR,HM,HB,v,HL,HO⟩:=hrel;by_cases pX:k<n
  ·have q1:(0:Int)<(n:Int)-k:=zo;have q2:=aQ q1;obtain⟨p,hpk⟩:∃p,ps[k]?=some p:=⟨_,aF (by rw[hn];exact pX)⟩;have hpb:=hp p (bO hpk);have jy:=aeO tail hpk;obtain⟨key,val⟩:=p;obtain⟨vL,qG⟩:=hpb;dsimp only at vL qG jy;obtain⟨kn,EM⟩:=ze key.length;obtain⟨vn,Sl⟩:=ze val.length;rw[EM]at vL jy;rw[Sl]at qG jy;obtain⟨nx,ED⟩:=ze (As ps tail (k+1));rw[ED]at jy;rw[jy]at HR;have T1:=pD gR 1 _ false wr HR zu zo;rw[rF _ vL]at T1;have T1:=zi T1;have r1:=HR.2.cell 1;have r0:=HR.2.cell 0;simp only[aL,au]at r0 r1;clear jy;go_wp2_with fail;refine T1.mono ?_;rintro e w5 ⟨rfl,r5,o5⟩;have T2:=qx gR kn _ false w5 r5 (by rw[jg,jD,ax,EM];omega);rw[jg,jD,ik EM,ke EM]at T2;have T2:=zi T2;clear r5 r0 r1 T1;go_wp2_with fail;refine T2.mono ?_;rintro e w6 ⟨rfl,r6,o6⟩;have O6:=zi (o5.aE o6);have T3:=pD gR 1 _ false w6 r6 zu zo;rw[rF _ qG]at T3;have T3D:=zi (show bG 286 #[.pointer (some ⟨gR,0,none⟩),.int .i64 (1:Nat)] w6.drew _ from(pD gR 1 (UInt8.ofNat vn::(val++nx)) false w6.drew r6 zu zo));rw[rF _ qG]at T3D;have L6:=zi (O6.aC HL hne);have HVR:Hid (∀g,v.ownBlock=some g->g≠gR/\g≠gL):=λg hg=>⟨by
    rintro rfl;have:=(dc HO hg).dv HR.2.dV;revert this;decide,by
    rintro rfl;have:=(dc HO hg).dv HL.dV;revert this;decide⟩
   have W6:=zi (HO.only O6 (λg hg=>(HVR g hg).1));have l0:=L6.cell 0;have lf:=L6.frozen 0;simp only[au]at l0;clear r6 o6 T2 o5;have L0:Hid (w6.drew.cell? ⟨gL,0,none⟩=some v):=l0;go_wp2_with fail;refine aN 12 (λW=>W.cell? ⟨gL,0,none⟩=some v) (λ_=>True) zp L0 trivial (λaz=>?_);refine zt 0 (h:=zt 1 (h:=zt 2 (h:=zt 3 (h:=zl 4 (h:=zt 5 (h:=zt 6 (h:=zt 7 (h:=?_))))))));refine zr 8 λK hK=>?_;go_simp;refine T3D.mono ?_;rintro e w7 ⟨rfl,r7,o7⟩;have o7:ag (·=gR) w6 w7:=o7.im;have T4:=qx gR vn _ false w7 r7 (by rw[jg,jD,ax,Sl];omega);rw[jg,jD,ik Sl,ke Sl]at T4;obtain⟨T4,O7,L7,W7⟩:=yx T4 (O6.aE o7) (L6|>o7.aC<|hne) (W6.only o7 (λg hg=>(HVR g hg).1));clear r7 o7;go_wp2_with fail;refine hK.out _ _ ⟨λ_=>L7.cell 0,trivial⟩ (λaz=>?_);clear hK K;refine zr 9 λK hK=>?_;go_simp;refine T4.mono ?_;rintro e w8 ⟨rfl,r8,o8⟩;obtain⟨O8,L8,W8⟩:=kt (O7.aE o8) (o8.aC L7 hne) (W7.only o8 (λg hg=>(HVR g hg).1));clear o8;go_wp2_with fail;refine hK.out _ _ ⟨λ_=>L8.cell 0,trivial⟩ (λaz=>?_);clear hK K;refine zt 10 (h:=?_);refine zr 11 λK hK=>?_;go_simp;have S9:=zi (pB w8 ⟨key,val⟩);obtain⟨w9,En⟩:=ze (w8.alloc (.cells #[.string (ar key),.string (ar val)] 399));have B9:Hid (Below w8.heap.size w8 w9):=by rw[Hid,<-En];exact za _ _
   obtain⟨W9,L9,R9⟩:=kt (W8.aa B9) (L8.aa B9 L8.lt) (r8.aa B9);rw[En]at S9|-
   obtain⟨g9,hg9⟩:=ze w8.heap.size;rw[hg9]at S9|-
   refine hK.out _ _ ⟨λ_=>L9.cell 0,trivial⟩ (λaz=>?_);clear hK K;refine zr 12 λK hK=>?_;refine fi Tryz.gn rfl (.tmp 39) (.tmp 46) rfl rfl W9 (some ⟨g9,0,none⟩) 1 1 (gQ ⟨key,val⟩) rfl rfl S9 (by intro u hu;simp only[gQ,cV,je,iU]at hu;rcases hu with rfl|rfl<;>rfl) zo (ao HB.out (ao O8.size B9.size)) ?_;intro v10 pZ ZW m10;have nL:Hid (v.ownBlock≠some gL):=λe=>(HVR gL e).2 rfl;have nR:Hid (v.ownBlock≠some gR):=λe=>(HVR gR e).1 rfl;have L10:=zi (m10.only.aC L9 nL);have R10:Hid (Pa pZ gR nx false):=⟨R9.1,m10.only.aC R9.2 nR⟩;have W10:Hid (Rw 399 2 pZ bs v10 (k+1) (bu (ps.take (k+1)))):=by
    have e:bu (ps.take (k+1))=bu (ps.take k)++gQ ⟨key,val⟩:=by unfold bu;exact tS _ hpk
    rw[Hid,e];exact ZW
   have M10:Hid (Below w.heap.size w pZ):=HM.trans ((O8.cW (B:=w.heap.size) HM.size (λj hj e=>by have:=TZ.out;omega)).trans ((B9.mono (ao HM.size O8.size)).trans ((m10.sV W9.out (ao HB.out (ao O8.size B9.size))).mono (zC tA ib.size))));have X10:Hid (bs<=pZ.heap.size):=ao HB (ao O8.size (ao B9.size m10.1.size));clear ZW m10;obtain⟨A10,abO,arc,_⟩:=W10.eo;subst arc;refine hK.out _ _ ⟨λ_=>L10.cell 0,trivial⟩ (λaz=>?_);clear hK K;refine zt 13 (h:=zt 14 (h:=?_));refine zr 15 λK hK=>?_;have lf10:=L10.frozen 0;have l10:=L10.cell 0;simp only[au]at l10;have atf:Hid ((Value.slice A10 (k+1) abO).ownBlock≠some gL):=λe=>by have:=(dc W10 e).dv L10.dV;revert this;decide
   go_simp;obtain⟨Et,IL⟩:=ze (pZ.setCell ⟨gL,0,none⟩ (.slice A10 (k+1) abO));have O11:Hid (ag (·=gL) pZ Et):=by rw[Hid,<-IL];exact(ag.refl (·=gL) pZ).zs 0
   have L11:Hid (ay Et gL 346 [.slice A10 (k+1) abO]):=by rw[Hid,<-IL];exact L10.bw 0 _
   have R11:Hid (Pa Et gR nx false):=⟨R10.1,O11.aC R10.2 (λe=>hne e.symm)⟩;have W11:=zi (W10.only O11 (λg hg e=>atf (e▸hg)));have M11:Hid (Below w.heap.size w Et):=M10.trans (O11.cW (B:=w.heap.size) M10.size (λj hj e=>by have:=HGL.out;have:=eY.size;have:=aI.size;omega));have X11:Hid (bs<=Et.heap.size):=ao X10 O11.size;rw[IL];refine hK.out _ _ ⟨zk zp,trivial⟩ (λaz=>?_);clear hK K;(try simp only[Act.put,zq1,zq2,zP,zq4,zq5,RR]);refine bh zp ?_ _;clear az;clear l0 lf l10 lf10 q2 IL En;go_wp2_with fail;exact⟨⟨k+1,zo,by go_num,(by rw[ED];exact R11),M11,X11,_,L11,W11⟩,by simp[intOf];omega⟩
  ·obtain rfl:k=n:=zo;have q1:¬(0:Int)<(k:Int)-k:=zo;have q2:=aH q1;have r1:=HR.2.cell 1;simp only[aL,au]at r1;obtain⟨A,aB,rfl,hc,hs,hA⟩:=HO.eo;have HLA:Hid (fZ wr gL ps):=by
    refine⟨A,aB,?_,?_,?_⟩
    ·rw[hn];exact HL
    ·rw[hn];exact hc
    ·have e:=gN (l:=ps);rw[hn]at e;rw[e]at hs;exact hs
   have HGE:Hid (w.heap.size<=gL):=by have:=HGL.out;have:=eY.size;have:=aI.size;rw[Hid];omega
   clear hc hs hA;go_wp2_with fail;go_ret;exact⟨gL,rfl,HLA,(zA HGE.out),(by first|exact HM|(rw[<-hgR];exact HM))⟩
end Go.Proofs.YtbhpofdafhahgaaGreatDoor
