/- Part 22: RwW ClashB ClashC ClashD ClashE ClashF. -/
import Derived.Lib.SliceRun
import Derived.Test.YtbhpofdafhahgaaGreatDoorMq21
set_option linter.all false
set_option maxHeartbeats 8000000
set_option maxRecDepth 100000
namespace Go.Proofs.YtbhpofdafhahgaaGreatDoor
open Go.RowKit Go.Maps Go.WideMaps
variable [Inhabited eH]
variable {w:World} {S:iM} {gK aA:Nat} {tm cn:Value} {ps:List Pl.Pr}
theorem tO{g:Nat}{t:TypeId}{v:Value}(h:ay w g t [v]):w.setCell ⟨g,0,none⟩ v=w:=by
 have e:∀f:Obj->Obj,(∀o,w.heap[g]?=some o->f o=o)->w.heap.modify g f=w.heap:=λf hf=>by
  grind
 unfold World.setCell;rw[e];intro o ho;unfold ay at h
 grind
def E0:Pl.Bs:=⟨[],none,0⟩
def aer(S:iM)(ps:List Pl.Pr)(w:World)(e:Ending)(w':World):Prop:=
 SF S w w'/\S.At ps w'/\e= .returned (.tuple #[.bool true,.nilIface])
theorem LA{P:Nat->Prop}{T:Int}{A:Option Addr}{n c:Nat}{x:Pl.fh}(h:vY w P [.int .i64 T,.slice A n c] x):n=x.ops.length/\n<=c/\∃cs,Src w A cs/\fW 4 (OP w P) cs x.ops/\∀p,A=some p->P p.block:=by
 obtain⟨A',aB,cs,h1,h2,h3,h4,h5⟩:=h
 grind
theorem vz.amU{W:World}{gx gm rm p7 p6 mJ:Nat}{b:Pl.Bs}(h:vz S gK tm cn ps w gx gm rm p7 p6 b mJ W):gm<W.heap.size/\p7<W.heap.size/\p6<W.heap.size:=by obtain⟨f,hf,_⟩:=h.mem.fv.map;obtain⟨f2,Fz⟩:=h.mem.tq.map;exact⟨hf.lt,h.mem.aC.lt,Fz.lt⟩
theorem aem{rm gm gx p7 p6:Nat}{w2 w3:World}(hS:eP S aA)(tA:∀k,S.bs k->k<w.heap.size)(hc:Ctx w)(hB:vZ S gK tm cn w)(hA:S.At ps w)(hb:dP w w2)(hgm:w.heap.size<=gm)(hm:dX w2 gm 0 (λ_=>none) 0)(hx:ay w2 gx 272 [.map (some gm)])
 (hf:SF (wK gm rm) w2 w3) (jM:eX (wK gm rm) p7 p6 0 E0 w3) (h1:w2.heap.size<=p7) (h2:w2.heap.size<=p6):vz S gK tm cn ps w gx gm rm p7 p6 E0 gm w3:=by
 have ho:=Nm hf;have hsp:kM (λk=>k=gm) w2 []:=λk t ht _ hk=>hm.kz t zw;have hsz:=hb.size;refine⟨(SF.ae hb).new ho zS hc.lo,hS.bQ (hS.aa hA hb) ho hsp zu zu (λx hx hk=>?_),(hc.aa hb).gl hf.2.1,?_,hx.sp ho hsp zu,jM.any rfl gm,zo,aK hm.lt ho.size,hB.lt⟩
 ·grind
 ·exact ay.sp (hB.aa hb hB.lt) ho hsp zu
theorem ZC(hS:eP S aA)(hroom:aA<=100000)(hu:¬S.u8)(gK:Nat)(tm:Value)(P:List Pl.fh)(w:World)(hB:vZ S gK tm (.int .i64 (P.length:Nat)) w)(hA:S.At (fH E0 P).ps w)(hc:Ctx w)(tA:∀k,S.bs k->k<w.heap.size)(Qj:YZ S (fH E0 P).ps)(hY:kv aA E0 P)(bU:P.length<1000000):
 bG 107 #[aU gK] w (aer S (fH E0 P).ps w):=by
 have hmm:= @run_makeMap Tryz.prog;obtain⟨ps,vS⟩:=ze ((fH E0 P).ps);obtain⟨N,hN⟩:=ze P.length;have hGd:∀n,Pl.Good (P.take n) (fH E0 (P.take n)):=λn=>by
  have:=Good.PJ (P.take n) [] E0 Pl.Hu (λx hx=>?_) (by rw[aP,uD];omega)
  ·exact this
  ·obtain⟨k,hk⟩:=lG.1 (mQ hx);exact(hY.dm hk).1
 have Vt:Pl.Good P (fH E0 P):=by have:=hGd N;rw[dx zo]at this;exact this
 rw[vS]at hA Qj|-
 rw[hN]at hB bU;obtain⟨cn,Fi⟩:=ze (Value.int .i64 ((N:Nat):Int));obtain⟨gm,hgm⟩:=ze w.heap.size;obtain⟨w1,dj⟩:=ze (w.alloc (.map #[] 0));obtain⟨w2,iA⟩:=ze (w1.alloc (.cells #[.map (some gm)] 272));have aI:=zb dj;have bz:=zb iA;have dM:=aI.trans (bz.mono aI.size);have M1:dX w1 gm 0 (λ_=>none) 0:=by rw[<-dj,<-hgm];exact dX.made w
 have ma:w1.heap.size=gm+1:=by rw[<-dj,<-hgm];simp
 have X2:ay w2 (gm+1) 272 [.map (some gm)]:=by rw[<-iA,<-ma];exact ay.new w1 272 _
 have fu:=hc.lo;have Kd:nU gm aA [] w2:=⟨zo,List.Pairwise.nil,(λ_ h=>by cases h),aM _,λ_=>none,M1.aa bz,λ_ _=>rfl,λk l h=>by simp[Pl.dI]at h⟩;have HO:=MB (Oi gm aA hroom) (agL gm aA) w2 Kd (hc.aa dM) (λk hk=>by have h1:k=gm:=hk;have h2:=(M1.aa bz).lt;omega);unfold iM.v at HO;have x0:=cA X2;obtain⟨HO,wu,HX⟩:=kt HO (And.intro (λ(w3:World) (p7 p6:Nat)=>aem (gK:=gK) (tm:=tm) (w3:=w3) (rm:=aA) (p7:=p7) (p6:=p6) hS tA hc hB hA dM (gF hgm) (M1.aa bz) X2) fu) (ze8 tA Qj hY bU hGd Vt vS hN);clear hB hA hc tA Qj hY bU hGd Vt vS hN aI bz dM M1 X2 fu Kd Fi;unfold aU;go_enter Tryz.func107,Tryz.ntmps107;go_wp2_with fail;refine HO.mono ?_;rintro e w3 ⟨FC,p7,p6,rfl,ahe,pK,YY⟩;have fu:=wu.2;have aqf:=zi (wu.1 w3 p7 p6 FC ahe pK YY);clear FC ahe pK YY x0;unfold aU;go_wp2_with fail
 go_loopw [7] (λi wr=>∃n mJ:Nat,n<=N/\i= .int .i64 ((n:Int)+1)/\Hid (vz S gK tm (.int .i64 (N:Nat)) ps w (gm+1) gm aA p7 p6 (fH E0 (P.take n)) mJ wr)) (λi _=>N+1-(intOf i).toNat)
 case atStart=>exact⟨0,gm,aM _,rfl,aqf⟩
 case round=>
  obtain⟨n,mJ,hn,rfl,HS⟩:=hrel;have c2:=HS.aC.cell 2;simp only[aL,au]at c2;by_cases hnN:n<N
  ·have q1:((n:Int)+1)<=(N:Int):=zo;have q1':decide ((n:Int)+1<=(N:Int))=true:=aQ q1;go_wp2_with fail;obtain⟨tA,Qj,hY,bU,hGd,Vt,vS,hN⟩:=HX.out;obtain⟨x,hx⟩:∃x,P[n]?=some x:=⟨_,aF zo⟩;obtain⟨agH,ahS,adH⟩:=hY.dm hx;have hpy:(Pl.jw (Pl.jU (Pl.aum 112 (n+1) [])) ps).flatMap Pl.Pr.val=Pl.bj x:=by have h1:=Vt.pay n zo;rw[vS]at h1;rw[h1,show Pl.ed P n=x by unfold Pl.ed;rw[tY,hx];rfl]
   have acN:=DD hS hu hroom gK tm (.int .i64 (N:Nat)) ps Qj (n+1) wr HS.aC HS.fv HS.ctx zo;rw[hpy]at acN;have hl:=Pl.mg agH;have Dt:Pl.fq (Pl.bj x)=some x:=(Pl.qK _ _).2 ⟨agH,rfl⟩;obtain⟨pl,EO⟩:=ze (Pl.bj x);rw[EO]at acN hl Dt;obtain⟨acN,HXX⟩:=dz acN (sS hx agH ahS adH);clear tA Qj hY bU hGd Vt vS hN hx agH ahS adH hpy EO;refine acN.mono ?_;rintro e w4 ⟨hf4,ha4,A4,c4,rfl,hc4,ht4⟩;obtain⟨m4,hm4⟩:=ze pl.length;obtain⟨HS4,HRE⟩:=dz (HS.step hS HX.1 hf4 ha4) (Mh A4 c4 pl w4 ht4.bytes hc4 zo (λp hp=>jh.lt_ (ht4.2 p hp)));rw[hm4]at HRE|-
   clear hf4 ha4 hc4 ht4 c2 hm4;go_wp2_with fail;refine HRE.mono ?_;rintro e w5 ⟨T5,A5,n5,c5,ok,rfl,nB,gP,mm⟩;rw[Dt]at gP;obtain rfl:ok=true:=gP;have mm:=mm x Dt;obtain⟨gX,w6,hgX,nC,nW,X6⟩:=zE w5 147 [.int .i64 T5,.slice A5 n5 c5];obtain⟨hn5,La,_⟩:=LA mm;have adt:n5<=16:=by rw[hn5];exact HXX.2.1.2.1.2
   have hml:=HS4.amU;have HTI:Hid (JV S gK tm (.int .i64 (N:Nat)) ps w (gm+1) gm aA p7 p6 gX w4.heap.size w5.heap.size [.int .i64 T5,.slice A5 n5 c5] x (fH E0 (P.take n)) mJ w6):=
    ⟨(HS4.aa hS HX.1 nB).aa hS HX.1 nW,mm.only (ag.ae nW (λ_=>False)) (λ_ _ h=>h),X6,.inl HS4.lt,hml,nW.size⟩
   have HCS:=zi (sS hn5 La nW hgX);obtain⟨d0,d1,_,_⟩:=aO X6;clear nB mm nW X6 hn5 La hml;go_wp2_with fail
   go_loopw [52] (λi wr=>∃k NS:Nat,k<=n5/\i= .int .i64 (k:Int)/\Hid (JV S gK tm (.int .i64 (N:Nat)) ps w (gm+1) gm aA p7 p6 gX w4.heap.size w5.heap.size [.int .i64 T5,.slice A5 n5 c5] x (Pl.nK (fH E0 (P.take n)) (x.ops.take k)) NS wr)) (λi _=>n5-(intOf i).toNat)
   case atStart=>exact⟨0,mJ,aM _,rfl,HTI⟩
   case round=>
    obtain⟨k,NS,hk,rfl,HT⟩:=hrel;by_cases pX:k<n5
    ·have q1:(k:Int)<(n5:Int):=zo;obtain⟨e5,_,cs,hcs,kD,_⟩:=LA HT.tx;clear e5;obtain⟨o,ho⟩:∃c,x.ops[k]?=some c:=⟨_,aF (by rw[<-HCS.1];exact pX)⟩;obtain⟨c,hor,_,pH⟩:=kD.dm ho;obtain⟨b0,pL⟩:=ze (Pl.nK (fH E0 (P.take n)) (x.ops.take k));have hfo:=HXX.2.2.1.dm ho;have IQ:=PZ (b:=fH E0 (P.take n)) ho;have og:b0.count<1000000000:=by rw[<-pL,OI,(HX.2.2.2.2.1 n).jX,aP];have:=HX.2.2.2.1;omega
     rw[pL]at hfo IQ HT;have agR:=hor;obtain⟨Ac,cc,Ar,cr,rfl,_⟩:=hor;obtain⟨b,off,rfl,g0⟩:=hcs.dm _ _ (pH 0 zo);have g1:=hcs.cell _ _ (pH 1 zo);have g2:=hcs.cell _ _ (pH 2 zo);have g3:=hcs.cell _ _ (pH 3 zo);rw[<-ew]at g1 g2 g3;rw[cI]at g0;obtain⟨wv,hwv,Rq⟩:=zF wr (.cells #[.int .i64 (o.kind:Nat),.string (ar o.table),.slice Ac o.aZ.length cc,.slice Ar o.row.length cr] 216);have BV:ay wv wr.heap.size 216 [.int .i64 (o.kind:Nat),.string (ar o.table),.slice Ac o.aZ.length cc,.slice Ar o.row.length cr]:=by rw[<-hwv];exact ay.new wr 216 _
     obtain⟨k0,k1,k2,k3,_⟩:=eh BV;have hTv:=HT.aa hS HX.1 Rq;have hDO:=I7 (Oi gm aA hroom) p7 p6 NS b0 (λk=>w4.heap.size<=k/\k<w5.heap.size) _ o wv hTv.sn.mem hTv.sn.ctx hfo (λW hW=>(agR.only (ag.ae Rq (λ_=>False)) (λ_ _ h=>h)).only (Nm hW) (λj hj e=>by have h1:=hTv.afm;have h2:j=gm:=e;omega)) (λj hj=>aK hj.2 hTv.top) og;clear hcs kD ho pH hfo og agR Rq BV;unfold aU at hDO;go_wp2_with fail;refine hDO.mono ?_;rintro e w7 hq7;obtain⟨rfl,_,gt4,Zj⟩:=hTv.book hS HX.1 wu.2 hq7;have HT7:Hid (JV S gK tm (.int .i64 (N:Nat)) ps w (gm+1) gm aA p7 p6 gX w4.heap.size w5.heap.size [.int .i64 T5,.slice (some ⟨b,off,none⟩) n5 c5] x (Pl.nK (fH E0 (P.take n)) (x.ops.take (k+1))) gt4 w7):=by rw[Hid,IQ];exact Zj
     clear hq7 Zj;go_wp2_with fail;exact⟨⟨k+1,gt4,zo,by go_num,HT7⟩,by simp[intOf];omega⟩
    ·obtain rfl:k=n5:=zo;have q1:¬(k:Int)<(k:Int):=zo;obtain⟨b0,pL⟩:=ze (Pl.nK (fH E0 (P.take n)) x.ops);have Ca:x.ops.take k=x.ops:=dx (by rw[<-HCS.1];exact ai _);rw[Ca,pL]at HT;obtain⟨z0,z1,_,_⟩:=aO HT.bX;have qO:=(HX.2.2.2.2.1 n).ops x.ops;rw[pL]at qO;have Lw:=HXX.2.2.2;rw[pL]at Lw;have VL:=zi (Rt (Oi gm aA hroom) p7 p6 NS b0 (P.take n) x (λk=>w4.heap.size<=k/\k<w5.heap.size) _ wr HT.sn.mem HT.sn.ctx qO Lw (λW hW=>HT.tx.only (Nm hW) (λj hj e=>by have h1:=HT.afm;have h2:j=gm:=e;omega)) (λj hj=>aK hj.2 HT.top) HXX.2.1);have PI:Hid (fH E0 (P.take (n+1))=Pl.aup b0 x):=by rw[Hid,QK HXX.1,<-pL];rfl
     clear Ca pL qO Lw;unfold aU at VL;go_wp2_with fail;refine VL.mono ?_;rintro e w7 hq7;obtain⟨rfl,_,gt4,Zj⟩:=HT.book hS HX.1 wu.2 hq7;have HT7:Hid (vz S gK tm (.int .i64 (N:Nat)) ps w (gm+1) gm aA p7 p6 (fH E0 (P.take (n+1))) gt4 w7):=by rw[Hid,PI.out];exact Zj.sn
     clear hq7 Zj z0 z1;have bU:=HX.2.2.2.1;go_wp2_with fail;exact⟨⟨n+1,gt4,zo,by go_num,HT7⟩,by simp[intOf];omega⟩
  ·obtain rfl:n=N:=zo;have q1:¬((n:Int)+1)<=(n:Int):=zo;obtain⟨tA,Qj,hY,bU,hGd,Vt,vS,hN⟩:=HX.out;have Ca:P.take n=P:=dx zo;rw[Ca]at HS;obtain⟨gs,ui⟩:=ze wr.heap.size;obtain⟨w8,XO⟩:=ze (wr.alloc (.cells #[.bool true] 4));obtain⟨w9,En⟩:=ze (w8.alloc (.cells #[.int .i64 0] 3));have Ep:=zb XO;have qA:=zb En;have hs8:w8.heap.size=gs+1:=by rw[<-XO,<-ui];simp
   have B8:=zB XO ui;have B9:ay w9 (gs+1) 3 [.int .i64 ((0:Nat):Int)]:=by rw[<-En,<-hs8];exact ay.new w8 3 _
   have dM:=Ep.trans (qA.mono Ep.size);have h9:=HS.aa hS tA dM;have hsz:=HS.sf.1.size;have fu:=wu.2;have wG:∀k,w.heap.size<=k->¬S.bs k:=λk hk h=>by have:=tA k h;omega
   have hJ:ahC S ps gm aA (gm+1) gs (gs+1) [] (λk=>k=gs\/k=gs+1) w9:=⟨h9.fv,by have:=h9.mem.fv;rw[vS]at this;exact this,wG gm h9.new.1,h9.bx,B8.aa qA B8.lt,B9,zo,λk=>Iff.rfl⟩;have HE:=zi (JQ hS Qj (WK hS hroom ps gm aA (gm+1) gs (gs+1)) (λk=>k=gs\/k=gs+1) [] none 0 0 w9 hJ h9.ctx rfl zj (ai _) ⟨.inl rfl,λq h=>by cases h⟩ (λq h=>by cases h));have fj:Pl.jw (Pl.jU []) ps=ps:=Pl.Ec (λ_ x _=>Pl.XG x.key);rw[fj]at HE;have c0:=h9.aC.cell 0;unfold iM.v at c0 HE;simp only[au]at c0;have JJ:=zf Tryz.prog;have HF9:=zi (zd h9.sf fu hsz);have abG:w9.setCell ⟨gs+1,0,none⟩ (.int .i64 0)=w9:=tO B9;have hcf:=B9.frozen 0;have hcc:w9.cell? ⟨gs+1,0,none⟩=some (.int .i64 0):=B9.cell 0;clear tA Qj hY bU hGd Vt vS hN Ca Ep qA B8 B9 dM h9 hJ fj;go_wp2_with fail;refine HE.mono ?_;rintro e pZ ⟨rfl,O',hJ,hO',aoQ,amz,anL⟩;have hold:∀x,x<w.heap.size->(S.bs x\/x=gs\/x=gs+1)->S.bs x:=λx hx hk=>hk.elim id (λhk=>by have:=HF9.2.2;omega);have KA:SF S w pZ:=⟨HF9.1.1.te aoQ hold,HF9.1.2.1.aE amz,HF9.1.2.2.te anL hold⟩;have HQ:Hid (aer S ps w (.returned (.tuple #[.bool true,.nilIface])) pZ):=⟨KA,hJ.fv,rfl⟩;have y0:=cA hJ.bS;have y1:=cA hJ.bC;have y2:=cA hJ.bx;obtain⟨f,hf,_⟩:=hJ.mem.map;have y3:(Builtin.len_ #[270] 3 #[.map (some gm)]).run Tryz.prog pZ= .ok (.int .i64 (ps.length:Nat)) pZ:=dX.len hf Tryz.underlying270 _;obtain⟨k,hk⟩:=ze ps.length;rw[hk]at y1 y3;clear hJ hO' aoQ amz anL hold KA hf hk c0;go_wp2_with fail;go_ret2;exact HQ
end Go.Proofs.YtbhpofdafhahgaaGreatDoor
namespace Go.Proofs.YtbhpofdafhahgaaGreatDoor
open Go.RowKit
variable {P:Nat->Prop} {w w' W:World} {ls:List (List UInt8)} {B lo:Nat} {cs:List Value} {v:Value} {K:FuncId} {cg:Array Value} {J:World->List (List UInt8)->Prop} {o:Option (List UInt8)}
variable (g7 g8 g9 g10 n aB:Nat) (A:Option Addr) (done L1:List (List UInt8))
def BR(w:World)(P:Nat->Prop)(A:Option Addr)(ls:List (List UInt8)):Prop:=∃cs,Src w A cs/\fW 1 (um w P) cs ls/\∀p,A=some p->P p.block
theorem BR.bb{w:World}{P:Nat->Prop}{A:Option Addr}{ls:List (List UInt8)}(h:BR w P A ls):BB w A ls:=by obtain⟨cs,h1,h2,_⟩:=h;exact h2.bb h1
theorem BR.only{F:Nat->Prop}{A:Option Addr}(h:BR w P A ls)(ho:ag F w w')(hF:∀b,P b->¬F b):BR w' P A ls:=by obtain⟨cs,h1,h2,h3⟩:=h;exact⟨cs,ho.src h1 zS,h2.mono (λ_ _ _ h=>um.fr _ _ _ _ _ _ _ h ho hF zu),h3⟩
theorem BR.Ee{A:Option Addr}(h:BR w P A ls)(hb:Below B w w')(hP:∀b,P b->b<B):BR w' P A ls:=
 h.only (F:=λb=>B<=b) ⟨hb.os,hb.tape,hb.output,hb.size,λk _ hn=>hb.block k zo⟩ zS
theorem BR.mono{P P':Nat->Prop}{w:World}{A:Option Addr}{ls:List (List UInt8)}(h:BR w P A ls)(hP:∀b,P b->P' b):BR w P' A ls:=by obtain⟨cs,h1,h2,h3⟩:=h;exact⟨cs,h1,h2.mono (λ_ _ _ h=>um.fr (λ_=>False) _ _ _ _ _ _ h (ag.refl _ _) zu hP),zS⟩
theorem fW.amW{α:Type}{R:List Value->α->Prop}{xs:List α}(h:fW 1 R cs xs)(k:Nat):fW 1 R (cs.take k) (xs.take k):=by
 refine⟨by rw[aP,aP,h.1,ry,ry],λj x hj=>?_⟩;rw[AZ]at hj;split at hj
 ·next hjk=>
  have:=h.2 j x hj;rw[ry]at this|-
  rw[List.drop_take,List.take_take,dt zo]
  grind
 grind
theorem fW.aoA{α:Type}{R:List Value->α->Prop}{xs:List α}(h:fW 1 R cs xs)(k:Nat):fW 1 R (cs.drop k) (xs.drop k):=by refine⟨by rw[bT,bT,h.1,ry,ry],λj x hj=>?_⟩;rw[lO]at hj;have:=h.2 _ x hj;simp_all
theorem BR.take{P:Nat->Prop}{w:World}{A:Option Addr}{ls:List (List UInt8)}(h:BR w P A ls)(k:Nat):BR w P A (ls.take k):=by obtain⟨cs,h1,h2,h3⟩:=h;exact⟨cs.take k,h1.take k,h2.amW k,h3⟩
theorem BR.drop{P:Nat->Prop}{w:World}{b off:Nat}{ls:List (List UInt8)}(h:BR w P (some ⟨b,off,none⟩) ls)(k:Nat):BR w P (some ⟨b,off+k,none⟩) (ls.drop k):=by
 obtain⟨cs,h1,h2,h3⟩:=h;refine⟨cs.drop k,?_,h2.aoA k,zS⟩;rcases h1 with rfl|⟨b',Lb,e,h1⟩
 ·exact .inl zu
 ·cases e;refine .inr ⟨_,_,rfl,λj u hu=>?_⟩;rw[lO]at hu;rw[ew];exact h1 _ u hu
theorem BR.dm{P:Nat->Prop}{w:World}{b off:Nat}{ls:List (List UInt8)}(h:BR w P (some ⟨b,off,none⟩) ls){k:Nat}{l:List UInt8}(hk:ls[k]?=some l):
 ∃A n aB,w.cell? ⟨b,off+k,none⟩=some (.slice A n aB)/\l.length=n/\n<=aB/\n<=140737488351232/\aw w A l/\∀p,A=some p->P p.block:=by
 obtain⟨cs,h1,h2,h3⟩:=h;obtain⟨c,⟨A,aB,rfl,a1,a2,a3,a4⟩,_,hc⟩:=h2.dm hk;have:=hc 0 zo;simp only[Nat.mul_one,cI,au]at this;exact⟨A,_,aB,h1.cell _ _ this,rfl,a1,a2,a3,a4⟩
theorem OL.br{aq:Nat}(h:BL w aq v ls):∃A aB,v= .slice A ls.length aB/\ls.length<=aB/\BR w (λb=>aq<=b/\b<w.heap.size) A ls:=by obtain⟨A,aB,cs,rfl,h1,h2,h3,h4⟩:=h.src um.fr;exact⟨A,aB,rfl,h1,cs,h2,h3,h4⟩
structure Qn(K:FuncId)(cg:Array Value)(B:Nat)(J:World->List (List UInt8)->Prop):Prop where
 enter:∀(x:Value) (W:World),(callFunc K (#[x]++cg)).run Tryz.prog W= .ok (.enter K (#[x]++cg)) W
 aa:∀(W W':World) (done:List (List UInt8)),J W done->Below W.heap.size W W'->J W' done
 call:∀(W0 W:World) (A:Option Addr) (n aB:Nat) (l:List UInt8) (done:List (List UInt8)),J W0 done->B<=W0.heap.size->Below W0.heap.size W0 W->l.length=n->n<=aB->n<=140737488351232->aw W A l->(∀p,A=some p->W0.heap.size<=p.block/\p.block<W.heap.size)->done.length<=4096->0<l.length->
  bG K (#[.slice A n aB]++cg) W λe w'=>e= .returned (.tuple #[])/\J w' (done++ [l])/\Below B W w'
def BF(w:World)(B:Nat)(J:World->List (List UInt8)->Prop)(l:List (List UInt8))(e:Ending)(w':World):Prop:=e= .returned (.tuple #[])/\J w' l/\Below B w w'
theorem Xg(A:Option Addr)(aB:Nat)(w:World)(hJ:J w done):
 bG 227 #[.slice A 0 aB,.func (.func K) #[] cg] w (BF w B J (done++Pl.cH [])):=by
 go_enter Tryz.func227,Tryz.ntmps227;go_wp2_with fail;go_end0;exact⟨rfl,by rw[Pl.AM,dH];exact hJ,ak _ _⟩
theorem Zh(T:Qn K cg B J)(done:List (List UInt8))(l:List UInt8)(b off aB:Nat)(w:World)(P:Nat->Prop)(hJ:J w done)(hB:B<=w.heap.size)(hb:BR w P (some ⟨b,off,none⟩) [l])(hd:done.length<=4000)(hl:l.length<=1000000):
 bG 227 #[.slice (some ⟨b,off,none⟩) 1 aB,.func (.func K) #[] cg] w (BF w B J (done++Pl.cH [l])):=by
 obtain⟨A,n,MV,hc,hn,wJ,hm,pr,hp⟩:=hb.dm (k:=0) (l:=l) rfl;have HE:=T.enter;have hn6:n<=1000000:=zo;have HL:=Mb A MV l w pr zo;rw[hn]at HL;have HL:=zi HL;rw[cI]at hc;clear hb pr hp;go_enter Tryz.func227,Tryz.ntmps227;go_wp2_with fail;refine HL.mono ?_;rintro e w2 ⟨A2,fC,rfl,bz,tI,hcc,TK⟩;obtain⟨n2,mV⟩:=ze (n+1);rw[mV]at hcc|-
 have HC:=zi (T.call w w2 A2 n2 fC (0::l) done hJ hB tI (by rw[bE,hn,mV]) hcc zo bz TK zo zu);clear bz hcc TK mV;go_wp2_with fail;refine HC.mono ?_;rintro e w3 ⟨rfl,hj3,bg⟩;have B3:=zi ((tI.mono hB).trans bg);clear bg;go_wp2_with fail;go_end0;exact⟨rfl,by rw[Pl.mO];exact hj3,B3⟩
theorem Vc(T:Qn K cg B J)(P:Nat->Prop)(hP:∀b,P b->b<B)(ls:List (List UInt8))(done:List (List UInt8))(b off aB:Nat)(w:World)(hJ:J w done)(hB:B<=w.heap.size)
 (hb:BR w P (some ⟨b,off,none⟩) ls) (hn:2<=ls.length) (hc:ls.length<=aB) (hm:ls.length<=1000) (hd:done.length+2*ls.length<=4000)
 (ih:∀(ls' qN:List (List UInt8)) (b' Lb cap':Nat) (w':World),ls'.length<ls.length->ls'.length<=cap'->J w' qN->B<=w'.heap.size->BR w' P (some ⟨b',Lb,none⟩) ls'->(∀l∈ls',l∈ls)->qN.length+2*ls'.length<=4000->
   bG 227 #[.slice (some ⟨b',Lb,none⟩) ls'.length cap',.func (.func K) #[] cg] w' (BF w' B J (qN++Pl.cH ls'))):
 bG 227 #[.slice (some ⟨b,off,none⟩) ls.length aB,.func (.func K) #[] cg] w (BF w B J (done++Pl.cH ls)):=by
 rw[Pl.jP ls hn];obtain⟨k,hk⟩:=ze (Pl.half ls.length);have rP:=Pl.nO ls.length;have pK:=Pl.qf hn;rw[hk]at rP pK|-
 have HE:=T.enter;have hT:∀W,BB W (some ⟨b,off,none⟩) (ls.take k)->bG 250 #[.slice (some ⟨b,off,none⟩) k aB] W λe w'=>e= .returned (bM (Pl.root (ls.take k)))/\Below W.heap.size W w':=by intro W hW;have:=DR _ (ls.take k) (some ⟨b,off,none⟩) aB W (ai _) hW (by simp;omega) (by simp;omega);rwa [aP,dt (iG pK)]at this
 have hD:∀W,BB W (some ⟨b,off+k,none⟩) (ls.drop k)->bG 250 #[.slice (some ⟨b,off+k,none⟩) (ls.length-k) (aB-k)] W λe w'=>e= .returned (bM (Pl.root (ls.drop k)))/\Below W.heap.size W w':=by intro W hW;have:=DR _ (ls.drop k) (some ⟨b,off+k,none⟩) (aB-k) W (ai _) hW (by simp;omega) (by simp;omega);rwa [bT]at this
 have iT:∀(qN:List (List UInt8)) (W:World),J W qN->B<=W.heap.size->BR W P (some ⟨b,off,none⟩) (ls.take k)->qN.length+2*k<=4000->bG 227 #[.slice (some ⟨b,off,none⟩) k aB,.func (.func K) #[] cg] W (BF W B J (qN++Pl.cH (ls.take k))):=by intro qN W h1 h2 h3 h4;have:=ih (ls.take k) qN b off aB W (by simp;omega) (by simp;omega) h1 h2 h3 (λl hl=>mQ hl) (by simp;omega);rwa [aP,dt (iG pK)]at this
 have iD:∀(qN:List (List UInt8)) (W:World),J W qN->B<=W.heap.size->BR W P (some ⟨b,off+k,none⟩) (ls.drop k)->qN.length+2*(ls.length-k)<=4000->bG 227 #[.slice (some ⟨b,off+k,none⟩) (ls.length-k) (aB-k),.func (.func K) #[] cg] W (BF W B J (qN++Pl.cH (ls.drop k))):=by intro qN W h1 h2 h3 h4;have:=ih (ls.drop k) qN b (off+k) (aB-k) W (by simp;omega) (by simp;omega) h1 h2 h3 (λl hl=>qB hl) (by simp;omega);rwa [bT]at this
 obtain⟨ht,hd'⟩:=dz (hb.take k) (hb.drop k);have J0:=Pl.fM k (ls.take k) (by rw[aP,dt (iG pK)]) rP;obtain⟨n,wM⟩:=ze ls.length;have HHN:Hid (ls.length=n):=wM;rw[wM]at hn hc hm pK iD|-
 have q0:((n:Int)==0)=false:=by simp;omega
 have q1:((n:Int)==1)=false:=by simp;omega
 clear ih hb;go_enter Tryz.func227,Tryz.ntmps227;go_wp2_with fail;refine(Q3 n _ zo zo).mono ?_;rintro e w' ⟨rfl,rfl⟩;rw[<-wM,hk,wM];have hlt:k<aB:=zo;have Sa:k<=n:=zo;have hx0:(0:Int)<=(k:Int):=zo;have vL:(k:Int)<=(aB:Int):=zo;have qG:(k:Int)<=(n:Int):=zo;have hx3:¬aB=k:=zo;have LR:=Pl.kx (ls.take k);have Mg:=Pl.kx (ls.drop k);rw[wM]at hD;go_wp2_with fail
 go_region_held3 (λ_=>True) (trivial) (first
  |(go_at_call 250;(with_reducible refine(hT _ ?_).mono ?_);exact ht.bb;rintro e w1 ⟨rfl,aeh⟩;have aI:=im aeh)
  |(go_at_call 250;(with_reducible refine(hD _ ?_).mono ?_);exact hd'.bb.bQ aI;rintro e w2 ⟨rfl,bz⟩)
  |(go_at_call 254;refine(MD _ _ w2 zo zo).mono ?_;rintro e w3 ⟨A3,mL,rfl,bg,vV,hcc,TK⟩
    have H13:=zi (aI.trans ((bz.trans (vV.mono bz.size)).mono aI.size));have HC:=zi (T.call w w3 A3 9 mL _ done hJ hB H13 (by simp[Pl.aG]) hcc zo bg (λp hp=>⟨by have:=TK p hp;have:=aI.size;have:=bz.size;omega,(TK p hp).2⟩) (zA hd) zu))
  |(refine HC.mono ?_
    rintro e w4 ⟨rfl,hj4,cj⟩;obtain⟨J4,B4⟩:=dz hj4 ((H13.mono hB).trans cj);clear hj4 cj)
  |fail)
 have b4s:=B4.size;have C1:=zi (iT _ w4 J4 (ao hB b4s) (ht.Ee B4 hP) (by have:=hd;have:=wM;rw[ax,dy];omega));clear aeh aI bz bg vV hcc TK;go_wp2_with fail;refine C1.mono ?_;rintro e w5 ⟨rfl,hj5,nB⟩;have B5:=zi (B4.trans nB);have C2:=zi (iD _ w5 hj5 (ao hB B5.size) (hd'.Ee B5 hP) (by have:=hd;have:=J0;have:=wM;simp only[ax,dy];omega));clear nB b4s;go_wp2_with fail;refine C2.mono ?_;rintro e w6 ⟨rfl,hj6,nW⟩;have B6:=zi (B5.trans nW);clear nW;go_wp2_with fail;go_end0;exact⟨rfl,by simpa using hj6,B6⟩
theorem Iz(T:Qn K cg B J)(P:Nat->Prop)(hP:∀b,P b->b<B)(n:Nat):∀(ls done:List (List UInt8)) (b off aB:Nat) (w:World),ls.length<=n->J w done->B<=w.heap.size->
 BR w P (some ⟨b,off,none⟩) ls->ls.length<=aB->ls.length<=1000->(∀l∈ls,l.length<=1000000)->done.length+2*ls.length<=4000->
 bG 227 #[.slice (some ⟨b,off,none⟩) ls.length aB,.func (.func K) #[] cg] w (BF w B J (done++Pl.cH ls)):=by
 induction n with
 |zero=>intro ls done b off aB w hn hJ _ _ _ _ _ _;obtain rfl:ls=[]:=zw;exact Xg done _ aB w hJ
 |succ n ih=>
  intro ls done b off aB w hn hJ hB hb hc hm hl hd;rcases eJ ls.length 2 with h2|h2
  ·match ls,h2 with
   | [],_=>grind
   | [l],_=>exact Zh T done l b off aB w P hJ hB hb zo zw
  ·refine Vc T P hP ls done b off aB w hJ hB hb h2 hc hm hd zw
def J1(B:Nat)(W:World)(done:List (List UInt8)):Prop:=∃v,ay W B 57 [v]/\BL W (B+1) v done
theorem aiF(B:Nat):Qn 228 #[.pointer (some ⟨B,0,none⟩)] B (J1 B):=by
 refine⟨λx W=>by kernel_rfl,λW W' done ⟨v,h1,h2⟩ hb=>⟨v,h1.aa hb h1.lt,h2.aa um.fr hb⟩,?_⟩;rintro W0 W A n aB l done ⟨v,h1,h2⟩ hB hb hn wJ hm pr hp hd _;obtain⟨i0,yW,nQ,kK,mY⟩:=bV Tryz.oI;have h1':=h1.aa hb h1.lt;have h2':=h2.aa um.fr hb;have c0:=h1'.cell 0;have f0:=h1'.frozen 0;simp only[au]at c0;have hBs:B+1<=W0.heap.size:=h1.lt;obtain⟨w1,dj,aI⟩:=zF W (.cells #[.slice A n aB] 29);have S1:Hid (Src w1 (some ⟨W.heap.size,0,none⟩) [.slice A n aB]):=Src.dE (t:=29) (by rw[<-dj];exact ay.new W 29 _);have O1:=zi (h2'.aa um.fr aI);have R1:Hid (um w1 (λb=>B+1<=b/\b<w1.heap.size/\v.ownBlock≠some b) [.slice A n aB] l):=by subst hn;exact⟨A,aB,rfl,wJ,hm,(ag.ae aI (λ_=>False)).bytes pr (λ_ _ h=>h),λp hp'=>⟨by have:=(hp p hp').1;omega,aK (hp p hp').2 aI.size,λe=>by have:=(h2.lt _ e).2;have:=(hp p hp').1;omega⟩⟩
 obtain⟨K1,L1,fJ,xC,tG,HI⟩:=zh6 (h1'.aa aI h1'.lt) (show done.length<=4294967296 by omega) (show B+1<=w1.heap.size from ao (ao hBs hb.size) aI.size) (aI.mono (show B<=W.heap.size by have:=hb.size;omega)) (show v.ownBlock≠some B fromλe=>by have:=(h2.lt _ e).1;omega) (sS yW nQ kK mY);clear h1 h2 h1' h2' hb pr hp aI hm hn yW nQ kK mY;go_enter Tryz.func228,Tryz.ntmps228;go_wp2_with (first
  |(at_builtin
    refine oW (v:=v) um.fr rfl (.tmp 3) (.tmp 5) 57 rfl Tryz.underlying57 HI.1 HI.2.1 HI.2.2.1 HI.2.2.2 rfl zj rfl O1 (some ⟨W.heap.size,0,none⟩) 1 [.slice A n aB] l rfl rfl S1 (by simp;rfl) R1 L1 zj fJ ?_;intro v5 w5 o5 m5;obtain⟨O5,K5⟩:=dz o5 (m5.only.aC K1 tG);have B5:Hid (Below B W w5):=xC.trans (m5.only.cW (zA fJ.out) (λb hb e=>by have:=(O1.lt b e).1;omega));obtain⟨A5,lX,cs5,rfl,_⟩:=o5.src um.fr;have c5:=K5.cell 0;have f5:=K5.frozen 0;simp only[au]at c5;clear m5 c0 f0)
  |fail)
 go_end0;refine⟨rfl,⟨_,K5.bw 0 _,?_⟩,B5.setCell (p:=⟨B,0,none⟩) (ai _) _⟩;have O6:=O5.out;simp only[ax,dy]at O6;exact O6.only um.fr ((ag.refl (·=B) w5).zs 0) (λx h1 _ h2=>by omega)
theorem WN(l m:List (List UInt8))(t:List UInt8):Pl.parts l (m++ [t])=match Pl.parts l m with
 |some z=>some z
 |none=>if m.length<l.length/\l[m.length]?≠some t then(l[m.length]?).map λa=>(a,t)else none:=by
 induction m generalizing l with
 |nil=>
  cases l with
  |nil=>rfl
  |cons a r=>
   simp only[aX,Pl.parts,uD,bE,au];by_cases h:a=t
   ·subst h;cases r<;>simp[Pl.parts]
   ·simp[h,Pl.parts]
 |cons b m ih=>
  cases l with
  |nil=>rfl
  |cons a r=>
   simp only[eu,Pl.parts];by_cases h:a=b
   ·rw[ah h,ah h,ih];simp
   ·rw[aj h,aj h]
def Kept(lo:Nat)(W:World)(v:Value)(o:Option (List UInt8)):Prop:=match o with
 |none=>v= .slice none 0 0
 |some l=>∃b off n aB,v= .slice (some ⟨b,off,none⟩) n aB/\l.length=n/\n<=aB/\n<=140737488351232/\lo<=b/\aw W (some ⟨b,off,none⟩) l
theorem aw.off{w w':World}{k:Nat}{A:Option Addr}{l:List UInt8}{t:TypeId}{cs:List Value}(h:aw w A l)(hB:ay w k t cs)(hcs:∀u∈cs,∀x,u≠ .int .u8 x)(ho:ag (·=k) w w'):aw w' A l:=by
 rcases h with h|⟨b,off,rfl,h⟩
 ·exact .inl h
 ·refine .inr ⟨b,off,rfl,λi hi=>ho.cell (h i hi) ?_⟩;rintro rfl;have:=h i hi;rw[hB.cell]at this
  grind
theorem Kept.low{lo':Nat}(h:Kept lo W v o)(hl:lo'<=lo):Kept lo' W v o:=by
 cases o with
 |none=>exact h
 |some l=>obtain⟨b,off,n,aB,h1,h2,h3,h4,h5,h6⟩:=h;exact⟨b,off,n,aB,h1,h2,h3,h4,ao hl h5,h6⟩
theorem Kept.bQ{W':World}(h:Kept lo W v o)(hk:∀b off l,aw W (some ⟨b,off,none⟩) l->aw W' (some ⟨b,off,none⟩) l):Kept lo W' v o:=by
 cases o with
 |none=>exact h
 |some l=>obtain⟨b,off,n,aB,h1,h2,h3,h4,h5,h6⟩:=h;exact⟨b,off,n,aB,h1,h2,h3,h4,h5,hk b off l h6⟩
def J2(W:World)(done:List (List UInt8)):Prop:=
 ay W g7 57 [.slice A n aB]/\BR W (λb=>g7<=b/\b<g8) A L1/\ay W g8 3 [.int .i64 (done.length:Nat)]/\
  ∃xv yv,ay W g9 29 [xv]/\ay W g10 29 [yv]/\Kept g7 W xv ((Pl.parts L1 done).map Prod.fst)/\Kept g7 W yv ((Pl.parts L1 done).map Prod.snd)
theorem akk(hn:L1.length=n)(fo:n<=aB)(hm:n<=4096)(h78:g7<g8)(h89:g8<g9)(h90:g9<g10)(hne:∀l∈L1,0<l.length)(ZD:∀l∈L1,l.length<=1000000):
 Qn 229 #[.pointer (some ⟨g9,0,none⟩),.pointer (some ⟨g8,0,none⟩),.pointer (some ⟨g7,0,none⟩),.pointer (some ⟨g10,0,none⟩)] g8 (J2 g7 g8 g9 g10 n aB A L1):=by
 refine⟨λx W=>by kernel_rfl,λW W' done ⟨h1,h2,h3,xv,yv,h4,h5,h6,h7⟩ hb=>?_,?_⟩
 ·have hk:∀b off l,aw W (some ⟨b,off,none⟩) l->aw W' (some ⟨b,off,none⟩) l:=λb off l h=>h.bQ hb;exact⟨h1.aa hb h1.lt,h2.only (ag.ae hb (λ_=>False)) (λ_ _ h=>h),h3.aa hb h3.lt,xv,yv,h4.aa hb h4.lt,h5.aa hb h5.lt,h6.bQ hk,h7.bQ hk⟩
 rintro W0 W Ar nr Y2 l done ⟨h1,h2,h3,xv,yv,h4,h5,h6,h7⟩ hB hb Gc wJ hmr pr hp hd akC;have hk:∀b off l,aw W0 (some ⟨b,off,none⟩) l->aw W (some ⟨b,off,none⟩) l:=λb off l h=>h.bQ hb;have h1':=h1.aa hb h1.lt;have h2':=h2.only (ag.ae hb (λ_=>False)) (λ_ _ h=>h);have SA:=h3.aa hb h3.lt;have h4':=h4.aa hb h4.lt;have h5':=h5.aa hb h5.lt;have h6':=h6.bQ hk;have h7':=h7.bQ hk;clear h1 h2 h3 h4 h5 h6 h7 hk;have c7:=h1'.cell 0;have c8:=SA.cell 0;have c9:=h4'.cell 0;have c10:=h5'.cell 0;have f8:=SA.frozen 0;have f9:=h4'.frozen 0;have f10:=h5'.frozen 0;simp only[au]at c7 c8 c9 c10;have vS:=WN L1 done l;obtain⟨d,hd'⟩:=ze done.length;rw[hd']at c8 SA vS hd;have HBY:=zi pr;have pA:∀W',ag (·=g8) W W'->ay W' g8 3 [.int .i64 ((d+1:Nat):Int)]->Pl.parts L1 (done++ [l])=Pl.parts L1 done->J2 g7 g8 g9 g10 n aB A L1 W' (done++ [l]):=λW' ho Ep he=>
  ⟨ho.aC h1' zo,h2'.only ho (λb hb e=>by omega),by rw[ax,dy,hd'];exact Ep,xv,yv,ho.aC h4' zo,ho.aC h5' zo,by
    rw[he];exact h6'.bQ (λb off l h=>h.off SA zu ho),by rw[he];exact h7'.bQ (λb off l h=>h.off SA zu ho)⟩
 have hg9:g9≠g8:=zo;have apn:∀(W:World) (a:Option Addr) (n c:Nat),(binOp .eql 29 (.slice a n c) (.slice none 0 0)).run Tryz.prog W= .ok (.bool a.isNone) W:=λW a n c=>Lib.run_eql_slice_nil W 29 5 a n c 0 0 Tryz.underlying29;clear pr ZD;cases TK:Pl.parts L1 done with
 |some z=>
  have h6:=h6';rw[TK]at h6;obtain⟨xb,xo,xn,xc,rfl,_⟩:=h6;have he:Hid (Pl.parts L1 (done++ [l])=Pl.parts L1 done):=by rw[Hid,vS,TK]
  go_enter Tryz.func229,Tryz.ntmps229;go_wp2_with fail;go_end0;exact⟨rfl,pA _ ((ag.refl (·=g8) W).zs 0) (SA.bw 0 _) he,(ak g8 W).setCell (p:=⟨g8,0,none⟩) (ai _) _⟩
 |none=>
  have Xx:=zi TK;have h6:=h6';have h7:=h7';rw[TK]at h6 h7;obtain rfl:xv=_:=h6;obtain rfl:yv=_:=h7;by_cases hdn:d<n
  ·have q1:(d:Int)<(n:Int):=zo;have q2:decide ((d:Int)<(n:Int))=true:=aQ q1;obtain⟨a,ha⟩:∃a,L1[d]?=some a:=⟨_,aF (by rw[hn];exact hdn)⟩;have hlt:0<a.length:=hne a (bO ha);obtain⟨b,off,rfl⟩:∃b off,A=some ⟨b,off,none⟩:=h2'.bb.addr (zA (id hn));obtain⟨Aa,na,ca,cell,hna,akM,hma,yH,hpa⟩:=h2'.dm ha;have heq:=xj Aa Ar a l ca Y2 W yH HBY;rw[hna,Gc]at heq;obtain⟨ba,oa,rfl⟩:∃b off,Aa=some ⟨b,off,none⟩:=by
    rcases yH with h|⟨b,off,h,_⟩
    ·rw[h]at hlt;simp at hlt
    ·exact⟨b,off,h⟩
   clear TK;by_cases fK:a=l
   ·have hbt:(a==l)=true:=by rw[fK];simp
    have he:Hid (Pl.parts L1 (done++ [l])=Pl.parts L1 done):=by rw[Hid,vS,Xx.out];simp only;rw[aj (λh=>h.2 (by rw[ha,fK]))]
    rw[hbt]at heq;clear hbt fK;go_enter Tryz.func229,Tryz.ntmps229;go_wp2_with fail;refine heq.mono ?_;rintro e w' ⟨rfl,rfl⟩;go_wp2_with fail;go_end0;exact⟨rfl,pA _ ((ag.refl (·=g8) W).zs 0) (SA.bw 0 _) he,(ak g8 W).setCell (p:=⟨g8,0,none⟩) (ai _) _⟩
   ·have hbt:(a==l)=false:=by simpa using fK
    have he:Hid (Pl.parts L1 (done++ [l])=some (a,l)):=by rw[Hid,vS,Xx.out];simp only;rw[ah ⟨by rw[hn];exact hdn,by rw[ha];simpa using fK⟩,ha];rfl
    rw[hbt]at heq;clear hbt fK;obtain⟨br,or_,rfl⟩:∃b off,Ar=some ⟨b,off,none⟩:=by
     rcases HBY.out with h|⟨b,off,h,_⟩
     ·rw[h]at akC;simp at akC
     ·exact⟨b,off,h⟩
    have HPR:Hid (g7<=br):=by have h9:W0.heap.size<=br:=(hp _ rfl).1;show g7<=br;omega
    have HM:=zi (sS akM hma wJ hmr);go_enter Tryz.func229,Tryz.ntmps229;go_wp2_with fail;refine heq.mono ?_;rintro e w' ⟨rfl,rfl⟩;go_wp2_with fail;go_end0;have o9:=(ag.refl (·=g9) W).setCell (p:=⟨g9,0,none⟩) (.inl rfl) (.slice (some ⟨ba,oa,none⟩) na ca);have k9:=h4'.bw 0 (.slice (some ⟨ba,oa,none⟩) na ca);have k10:=(o9.aC h5' zo).bw 0 (.slice (some ⟨br,or_,none⟩) nr Y2);have ZW:=(ag.refl (·=g10) (W.setCell ⟨g9,0,none⟩ (.slice (some ⟨ba,oa,none⟩) na ca))).setCell (p:=⟨g10,0,none⟩) (.inl rfl) (.slice (some ⟨br,or_,none⟩) nr Y2);have k9':=ZW.aC k9 zo;have k8:=ZW.aC (o9.aC SA zo) zo;have k8':=k8.bw 0 (.int .i64 ((d+1:Nat):Int));obtain⟨W2,hW2⟩:=ze ((W.setCell ⟨g9,0,none⟩ (.slice (some ⟨ba,oa,none⟩) na ca)).setCell ⟨g10,0,none⟩ (.slice (some ⟨br,or_,none⟩) nr Y2));rw[hW2]at k8 k8' k9' k10 ZW|-
    have o8:=(ag.refl (·=g8) W2).setCell (p:=⟨g8,0,none⟩) (.inl rfl) (.int .i64 ((d+1:Nat):Int));have pr:∀A' l',aw W A' l'->aw (W2.setCell ⟨g8,0,none⟩ (.int .i64 ((d+1:Nat):Int))) A' l':=λA' l' h=>((h.off h4' zu o9).off (o9.aC h5' zo) zu ZW).off k8 zu o8;have fj:ag (λx=>x=g9\/x=g10\/x=g8) W (W2.setCell ⟨g8,0,none⟩ (.int .i64 ((d+1:Nat):Int))):=((o9.mono (λ_ _ h=> .inl h)).trans ZW (λ_ _ h=> .inr (.inl h))).trans o8 (λ_ _ h=> .inr (.inr h));refine⟨rfl,⟨fj.aC h1' zo,h2'.only fj (λb hb h=>by omega),by rw[ax,dy,hd'];exact k8',_,_,o8.aC k9' zo,o8.aC k10 zo,?_,?_⟩,?_⟩
    ·rw[he.out];exact⟨ba,oa,na,ca,rfl,hna,HM.1,HM.2.1,(hpa _ rfl).1,pr _ _ yH⟩
    ·rw[he.out];exact⟨br,or_,nr,Y2,rfl,Gc,HM.2.2.1,HM.2.2.2,HPR,pr _ _ HBY⟩
    ·rw[<-hW2];exact(((ak g8 W).setCell (p:=⟨g9,0,none⟩) (by show g8<=g9;omega) _).setCell (p:=⟨g10,0,none⟩) (by show g8<=g10;omega) _).setCell (p:=⟨g8,0,none⟩) (ai _) _
  ·have q1:¬(d:Int)<(n:Int):=zo;have q2:decide ((d:Int)<(n:Int))=false:=aH q1;have he:Hid (Pl.parts L1 (done++ [l])=Pl.parts L1 done):=by rw[Hid,vS,TK];simp only;rw[aj (λh=>by have:=hn;omega)]
   clear TK;go_enter Tryz.func229,Tryz.ntmps229;go_wp2_with fail;go_end0;exact⟨rfl,pA _ ((ag.refl (·=g8) W).zs 0) (SA.bw 0 _) he,(ak g8 W).setCell (p:=⟨g8,0,none⟩) (ai _) _⟩
theorem VK:∀(n:Nat) (ls:List (List UInt8)),ls.length=n->∀l∈Pl.cH ls,0<l.length:=by
 intro n
 induction n using Nat.strongRecOn with
 |_ n ih=>
  intro ls hn l hl;rcases eJ ls.length 2 with h2|h2
  ·match ls,h2 with
   | [],_=>rw[Pl.AM]at hl;cases hl
   | [x],_=>
     rw[Pl.mO]at hl
     grind
  ·rw[Pl.jP ls h2]at hl;have rP:=Pl.nO ls.length;have pK:=Pl.qf h2
   grind
theorem OY:∀(n:Nat) (ls:List (List UInt8)),ls.length=n->(∀l∈ls,l.length<=5000)->∀l∈Pl.cH ls,l.length<=1000000:=by
 intro n
 induction n using Nat.strongRecOn with
 |_ n ih=>
  intro ls hn hs l hl;rcases eJ ls.length 2 with h2|h2
  ·match ls,h2 with
   | [],_=>rw[Pl.AM]at hl;cases hl
   | [x],_=>
     rw[Pl.mO]at hl
     grind
  ·rw[Pl.jP ls h2]at hl;have rP:=Pl.nO ls.length;have pK:=Pl.qf h2;rcases cV.1 hl with rfl|hl
   ·simp[Pl.aG]
   grind
def adN(w:World)(o:Option (List UInt8×List UInt8))(e:Ending)(w':World):Prop:=
 ∃xv yv,e= .returned (.tuple #[xv,yv,.bool o.isSome])/\Kept w.heap.size w' xv (o.map Prod.fst)/\Kept w.heap.size w' yv (o.map Prod.snd)/\Below w.heap.size w w'
theorem MG(b1 RE yL b2 Rj fC n m:Nat)(ls ms:List (List UInt8))(w:World)(h1:BR w (·<w.heap.size) (some ⟨b1,RE,none⟩) ls)(h2:BR w (·<w.heap.size) (some ⟨b2,Rj,none⟩) ms)(hn:ls.length=n)(hm:ms.length=m)
 (Ue:1<=n) (uc:n<=16) (EN:m<=16) (rX:n<=yL) (lC:m<=fC) (ma:∀l∈ls,l.length<=5000) (nX:∀l∈ms,l.length<=5000):
 bG 174 #[.slice (some ⟨b1,RE,none⟩) n yL,.slice (some ⟨b2,Rj,none⟩) m fC] w (adN w (Pl.parts (Pl.cH ls) (Pl.cH ms))):=by
 have JJ:=zf Tryz.prog;obtain⟨g7,wa,Uf,EH,yH,K7⟩:=zE w 57 [.slice none 0 0];have hsa:wa.heap.size=g7+1:=by rw[<-EH,<-Uf];simp
 rw[Uf]at h1 h2 yH;have T1:=Iz (aiF g7) (·<g7) (λ_ h=>h) n ls [] b1 RE yL wa zo ⟨_,K7,OL.nil _ _⟩ zo (h1.Ee yH (λ_ h=>h)) zo zo (λl hl=>by have:=ma l hl;omega) (by simp;omega);rw[hn,aX]at T1;obtain⟨T1,Sp,bU⟩:=kt T1 ma (Pl.fM n ls hn Ue);clear h1 K7 hn ma;go_enter Tryz.func174,Tryz.ntmps174;go_wp2_with fail;refine T1.mono ?_;rintro e w1 ⟨rfl,⟨v,K1,O1⟩,B1⟩;obtain⟨A1,c1,rfl,aja,alN⟩:=O1.br;obtain⟨n1,akV⟩:=ze ((Pl.cH ls).length);rw[akV]at aja K1;have wM:n1<=31:=zA bU.out;have ma:g7+1<=w1.heap.size:=K1.lt;obtain⟨g8,hg8⟩:=ze w1.heap.size;obtain⟨wb,p9⟩:=ze (((w1.alloc (.cells #[.int .i64 0] 3)).alloc (.cells #[.slice none 0 0] 29)).alloc (.cells #[.slice none 0 0] 29));have dM:Below w1.heap.size w1 wb:=by rw[<-p9];exact((za _ _).alloc zu _).alloc (by simp;omega) _
 have K8:ay wb g8 3 [.int .i64 0]:=by rw[<-p9,<-hg8];exact((ay.new w1 3 _).alloc _).alloc _
 have K9:ay wb (g8+1) 29 [.slice none 0 0]:=by rw[<-p9,<-hg8];exact(ay.newAt _ 29 _ _ zu).alloc _
 have K10:ay wb (g8+1+1) 29 [.slice none 0 0]:=by rw[<-p9,<-hg8];exact ay.newAt _ 29 _ _ zu
 have Lu:wb.heap.size=g8+3:=by rw[<-p9,<-hg8];simp
 have hJ:J2 g7 g8 (g8+1) (g8+1+1) n1 c1 A1 (Pl.cH ls) wb []:=by
  refine⟨K1.aa dM zo,(alN.only (ag.ae dM (λ_=>False)) (λ_ _ h=>h)).mono (λb hb=>⟨by have:=hb.1;omega,by have:=hb.2;omega⟩),K8,_,_,K9,K10,?_,?_⟩
  ·cases Pl.cH ls<;>rfl
  ·cases Pl.cH ls<;>rfl
 have B2:=zi ((yH.trans B1).trans (dM.mono zo));have T2:=Iz (akk g7 g8 (g8+1) (g8+1+1) n1 c1 A1 (Pl.cH ls) akV aja zo zo zo zo (VK _ _ rfl) (OY _ _ rfl Sp)) (·<g7) (λb hb=>by have:b<g7:=hb;omega) m ms [] b2 Rj fC wb (zA hm) hJ zo (h2.Ee B2.out (λ_ h=>h)) (zA hm) (zA hm) (λl hl=>by have:=nX l hl;omega) (by have:=hm;simp;omega);rw[hm,aX]at T2;have T2:=zi T2;clear dM K8 K9 K10 Lu hJ K1 O1 B1 alN akV aja hsa;go_wp2_with fail;refine T2.mono ?_;rintro e w2 ⟨rfl,⟨_,_,_,xv,yv,K9,K10,hx,hy⟩,B3⟩;have c9:=K9.cell 0;have c10:=K10.cell 0;simp only[au]at c9 c10;have B4:=zi (B2.trans (B3.mono zo));obtain⟨o,ho⟩:=ze (Pl.parts (Pl.cH ls) (Pl.cH ms));rw[ho]at hx hy;obtain⟨HX,HY,T8⟩:=kt hx hy (And.intro c9 c10);have aiX:∀(W:World) (a:Option Addr) (n c:Nat),(binOp .neq 29 (.slice a n c) (.slice none 0 0)).run Tryz.prog W= .ok (.bool (!a.isNone)) W:=λW a n c=>run_neq_slice_nil_any W 29 5 a n c 0 0 Tryz.underlying29;clear K9 K10 B3 T1 T2;have pA:adN w o (.returned (.tuple #[xv,yv,.bool o.isSome])) w2.drew:=⟨xv,yv,rfl,by rw[Uf];exact HX,by rw[Uf];exact HY,by rw[Uf];exact B4.drew⟩;clear hx hy;cases o with
 |none=>
  obtain rfl:xv=_:=HX.out;go_wp2_with fail
  go_region_held3 (λW:World=>W.cell? ⟨g8+1,0,none⟩=some (.slice none 0 0)/\W.cell? ⟨g8+1+1,0,none⟩=some yv) (exact T8) (fail)
  go_wp2_with fail;go_ret3;rw[ho];exact pA
 |some z=>
  obtain⟨xb,xo,xn,xc,rfl,_⟩:=id HX.out;go_wp2_with fail
  go_region_held3 (λW:World=>W.cell? ⟨g8+1,0,none⟩=some (.slice (some ⟨xb,xo,none⟩) xn xc)/\W.cell? ⟨g8+1+1,0,none⟩=some yv) (exact T8) (fail)
  go_wp2_with fail;go_ret3;rw[ho];exact pA
def RX{α:Type}(X:Nat->Prop)(R:World->(Nat->Prop)->List Value->α->Prop)(w:World)(P:Nat->Prop)(c:List Value)(x:α):Prop:=R w (λb=>P b/\¬X b) c x
theorem RX.fr{α:Type}{X:Nat->Prop}{R:World->(Nat->Prop)->List Value->α->Prop}(fr:Fr R):Fr (RX X R):=λF P P' w w' c x h ho hF hP=>
 fr F _ _ w w' c x h ho zS zS
def MW{α:Type}(e:TypeId)(s:Nat)(R:World->(Nat->Prop)->List Value->α->Prop)(t:Value)(w:World)(aq:Nat)(v:Value)(xs:List α):Prop:=
 OL e s (RX (λb=>t.ownBlock=some b) R) w aq v xs/\∀g,v.ownBlock=some g->t.ownBlock≠some g
section
variable {α:Type} {e:TypeId} {s:Nat} {R:World->(Nat->Prop)->List Value->α->Prop} {w w':World} {aq:Nat} {v t t':Value} {xs:List α}
theorem MW.nil(t:Value)(w:World)(aq:Nat):MW e s R t w aq (.slice none 0 0) []:=⟨OL.nil _ _,λg h=>by cases h⟩
theorem MW.ol(fr:Fr R)(h:MW e s R t w aq v xs):OL e s R w aq v xs:=by obtain⟨⟨cs,h1,h2⟩,_⟩:=h;exact⟨cs,h1,h2.mono (λ_ _ _ h=>fr (λ_=>False) _ _ w w _ _ h (ag.refl _ _) zu zw)⟩
theorem MW.only{F:Nat->Prop}(fr:Fr R)(h:MW e s R t w aq v xs)(ho:ag F w w')(hF:∀x,aq<=x->x<w.heap.size->¬F x):MW e s R t w' aq v xs:=⟨h.1.only (RX.fr fr) ho hF,h.2⟩
theorem MW.aa(fr:Fr R)(h:MW e s R t w aq v xs)(hb:dP w w'):MW e s R t w' aq v xs:=⟨h.1.aa (RX.fr fr) hb,h.2⟩
theorem MW.other(fr:Fr R)(h:MW e s R t w aq v xs)(m:Mv w w' t t'):MW e s R t' w' aq v xs:=by obtain⟨⟨cs,h1,h2⟩,h3⟩:=h;refine⟨⟨cs,m.only.own h1 h3,h2.mono (λ_ _ _ h=>fr (λk=>t.ownBlock=some k) _ _ w w' _ _ h m.only zu (λb hb=>⟨⟨hb.1.1,aK hb.1.2.1 m.1.size,hb.1.2.2⟩,m.2 b hb.1.2.1 hb.2⟩))⟩,λg hg=>m.2 g (h1.lt g hg).2 zw⟩
end
variable {ws W w5:World}
variable (n:Nat) (T:List Pl.fh) (i d:Nat) (w:World) (ls:List (List UInt8))
def fI:List Pl.fh:=ls.map λl=>(Pl.fq l).getD ⟨0,[]⟩
def three:List Pl.fh:=[Pl.ed T (3*i),Pl.ed T (3*i+1),Pl.ed T (3*i+2)]
theorem NH{ls:List (List UInt8)}{k:Nat}{l:List UInt8}{t:Pl.fh}(hl:ls[k]?=some l)(ht:Pl.fq l=some t):Pl.ed (fI ls) k=t:=by
 unfold Pl.ed fI
 grind
theorem TC(hd:d<3):(three T i)[d]?=some (Pl.ed T (3*i+d)):=by
 match d,hd with
 |0,_=>rfl
 |1,_=>rfl
 |2,_=>rfl
theorem afT(hd:d<3):(Pl.fG T i)[d]?=some (Pl.dK (3*i+d+1) (Pl.ed T (3*i+d))):=by
 match d,hd with
 |0,_=>rfl
 |1,_=>rfl
 |2,_=>rfl
def TS(P:Nat->Prop)(c:List Value)(i:Nat):Prop:=
 ∃Ah nh ch Ae ce At ct cs,c=[.slice Ah nh ch,.slice Ae 3 ce,.slice At 3 ct]/\nh=13/\13<=ch/\3<=ce/\3<=ct/\aw w Ah (Pl.nE T i)/\BR w P Ae (Pl.fG T i)/\Src w At cs/\fW 2 (vY w P) cs (three T i)/\
  (∀p,Ah=some p->P p.block)/\∀p,At=some p->P p.block
theorem TS.fr:Fr (TS T):=by rintro F P P' w w' c x ⟨Ah,nh,ch,Ae,ce,At,ct,cs,h1,h2,h3,h4,h5,h6,h7,h8,h9,h10,h11⟩ ho hF hP;exact⟨Ah,nh,ch,Ae,ce,At,ct,cs,h1,h2,h3,h4,h5,ho.bytes h6 zS,(h7.only ho hF).mono hP,ho.src h8 zS,h9.mono (λ_ _ _ h=>vY.fr _ _ _ _ _ _ _ h ho hF hP),zS,zS⟩
theorem Tryz.ajR:(Tryz.prog.info? 147).map (λi=>(i.zero,i.size,i.bytes))=some (some (.agg #[.int .i64 0,.slice none 0 0]),2,32):=zp
theorem Tryz.aaG:(Tryz.prog.info? 279).map (λi=>(i.zero,i.size,i.bytes))=some (some (.agg #[.slice none 0 0,.slice none 0 0,.slice none 0 0]),3,72):=zp
def WH(n:Nat)(e:Ending)(w':World):Prop:=
 ((∃l∈ls,Pl.fq l=none)/\e= .returned (.tuple #[.slice none 0 0,.bool false])/\Below w.heap.size w w')\/
 ((∀l∈ls,Pl.fq l≠none)/\∃v,e= .returned (.tuple #[v,.bool true])/\OL 279 3 (TS (fI ls)) w' w.heap.size v (List.range (n/3))/\Below w.heap.size w w')
theorem aha:hc 0=[.int .u8 0,.int .u8 0,.int .u8 0,.int .u8 0]:=by unfold hc;rfl
theorem rV{w:World}{g:Nat}{t:TypeId}{a0 a1 a2:Value}(h:ay w g t [a0,a1,a2]):
 (w.cell? ⟨g,0,none⟩=some a0/\w.cell? ⟨g,1,none⟩=some a1/\w.cell? ⟨g,2,none⟩=some a2)/\w.frozen? ⟨g,0,none⟩=false/\w.frozen? ⟨g,1,none⟩=false/\w.frozen? ⟨g,2,none⟩=false:=⟨⟨h.cell 0,h.cell 1,h.cell 2⟩,h.frozen 0,h.frozen 1,h.frozen 2⟩
structure InB(T:List Pl.fh)(j g7:Nat)(ws W:World)(ev tv:Value)(d m:Nat):Prop where
 aC:ay W g7 279 [.slice none 0 0,ev,tv]
 fG:MW 29 1 um tv W (g7+1) ev ((Pl.fG T j).take d)
 PJ:MW 147 2 vY ev W (g7+1) tv ((three T j).take m)
 old:Below g7 ws W
theorem InB.aa{T:List Pl.fh}{j g7 d m:Nat}{ws W W':World}{ev tv:Value}(h:InB T j g7 ws W ev tv d m)(hb:Below W.heap.size W W'):InB T j g7 ws W' ev tv d m:=
 ⟨h.aC.aa hb h.aC.lt,h.fG.aa um.fr hb,h.PJ.aa vY.fr hb,h.old.trans (hb.mono (iG h.aC.lt))⟩
theorem InB.afO{T:List Pl.fh}{j g7 d m:Nat}{ev tv tv5:Value}(h:InB T j g7 ws W ev tv d m)(mv:Mv W w5 tv tv5)(o:OL 147 2 (RX (λb=>ev.ownBlock=some b) vY) w5 (g7+1) tv5 ((three T j).take (m+1))):
 InB T j g7 ws (w5.setCell ⟨g7,2,none⟩ tv5) ev tv5 d (m+1):=by
 have ho:ag (·=g7) w5 (w5.setCell ⟨g7,2,none⟩ tv5):=(ag.refl (·=g7) w5).zs 2;have hn:tv.ownBlock≠some g7:=λe=>by have:=(h.PJ.1.lt g7 e).1;omega
 have hF:∀x,g7+1<=x->x<w5.heap.size->¬x=g7:=λx h1 _ h2=>by omega
 refine⟨(mv.only.aC h.aC (λe=>hn e)).bw 2 _,(h.fG.other um.fr mv).only um.fr ho hF,MW.only vY.fr ⟨o,λg hg e=>?_⟩ ho hF,((h.old.trans (mv.only.cW (iG h.aC.lt) (λk hk e=>by have:=(h.PJ.1.lt k e).1;omega))).setCell (p:=⟨g7,2,none⟩) (ai _) _)⟩;exact mv.2 g (h.fG.1.lt g e).2 (h.fG.2 g e) hg
theorem InB.afQ{T:List Pl.fh}{j g7 d m:Nat}{ev tv ev5:Value}(h:InB T j g7 ws W ev tv d m)(mv:Mv W w5 ev ev5)(o:OL 29 1 (RX (λb=>tv.ownBlock=some b) um) w5 (g7+1) ev5 ((Pl.fG T j).take (d+1))):
 InB T j g7 ws (w5.setCell ⟨g7,1,none⟩ ev5) ev5 tv (d+1) m:=by
 have ho:ag (·=g7) w5 (w5.setCell ⟨g7,1,none⟩ ev5):=(ag.refl (·=g7) w5).zs 1;have hn:ev.ownBlock≠some g7:=λe=>by have:=(h.fG.1.lt g7 e).1;omega
 have hF:∀x,g7+1<=x->x<w5.heap.size->¬x=g7:=λx h1 _ h2=>by omega
 refine⟨(mv.only.aC h.aC (λe=>hn e)).bw 1 _,MW.only um.fr ⟨o,λg hg e=>?_⟩ ho hF,(h.PJ.other vY.fr mv).only vY.fr ho hF,((h.old.trans (mv.only.cW (iG h.aC.lt) (λk hk e=>by have:=(h.fG.1.lt k e).1;omega))).setCell (p:=⟨g7,1,none⟩) (ai _) _)⟩;exact mv.2 g (h.PJ.1.lt g e).2 (h.PJ.2 g e) hg
theorem RP{α:Type}{xs:List α}{d:Nat}{x:α}(h:xs[d]?=some x):xs.take (d+1)=xs.take d++ [x]:=by rw[eK,h];rfl
theorem FM(A:Option Addr)(aB:Nat)(w:World)(Pd:BR w (·<w.heap.size) A ls)(hn:ls.length=n)(fo:n<=aB)(h3:n%3=0)(hm:n<=1048576):
 bG 173 #[.slice A n aB] w (WH w ls n):=by
 obtain⟨i0,yW,nQ,kK,mY⟩:=bV Tryz.oI;obtain⟨j0,hj0,Yd,XQ,RL⟩:=bV Tryz.ajR;obtain⟨k0,hk0,hx0,vL,qG⟩:=bV Tryz.aaG;obtain⟨HI,HJ,HK⟩:=kt (sS yW nQ kK mY) (sS hj0 Yd XQ RL) (sS hk0 hx0 vL qG);clear yW nQ kK mY hj0 Yd XQ RL hk0 hx0 vL qG;obtain⟨T,hT⟩:=ze (fI ls);obtain⟨N,hN⟩:=ze (n/3);have hnN:n=3*N:=zo;obtain⟨g5,JC⟩:=ze w.heap.size;obtain⟨wa,EH,yH⟩:=zF w (.cells #[.int .u8 0,.int .u8 0,.int .u8 0,.int .u8 0] 80);have K5:ay wa g5 80 (hc 0):=by rw[<-EH,<-JC,aha];exact ay.new w 80 _
 obtain⟨HT,HN,YE,K5⟩:=yx hT hN hn K5;have atU:3*N<=n:=zo;have atA:n<=3*N:=zo;clear hT hN hn hnN h3;go_enter Tryz.func173,Tryz.ntmps173;go_wp2_with fail
 go_loopw [4,6] (λv i W=>∃j:Nat,j<=N/\i= .int .i64 ((3*j:Nat):Int)/\Hid (OL 279 3 (TS T) W (g5+1) v (List.range j))/\Hid (ay W g5 80 (hc (Pl.cK T j)))/\Hid (Below g5 w W)/\
  Hid (∀k l,k<3*j->ls[k]?=some l->Pl.fq l≠none)) (λ_ i _=>n-(intOf i).toNat)
 case atStart=>exact⟨0,aM _,rfl,OL.nil _ _,K5,by rw[<-JC];exact yH,λk l hk=>by omega⟩
 case round=>
  obtain⟨j,hj,rfl,HO,HK5,HB,HRD⟩:=hrel;obtain⟨ws,hws⟩:∃x,x=wr:=⟨_,rfl⟩;subst hws;obtain⟨i,hi⟩:=ze (3*j);rw[hi];have HI3:=zi hi;have yl:i<=n:=zo;by_cases hjN:j<N
  ·have q1:(i:Int)<(n:Int):=zo;have hi3:i+3<=n:=zo;obtain⟨g7,Uf⟩:=ze ws.heap.size;have QH:g5<g7:=by rw[<-Uf];exact HK5.lt
   obtain⟨w1,dj⟩:=ze (ws.alloc (.cells #[.slice none 0 0,.slice none 0 0,.slice none 0 0] 279));have aI:Below g7 ws w1:=by rw[<-dj];exact(ak _ _).alloc zo _
   have I1:Hid (InB T j g7 ws w1 (.slice none 0 0) (.slice none 0 0) 0 0):=⟨by rw[<-dj,<-Uf];exact ay.new ws 279 _,MW.nil _ _ _,MW.nil _ _ _,aI⟩;clear hi aI;go_wp2_with fail
   go_loopw [8] (λk W=>∃(d:Nat) (ev tv:Value),d<=3/\k= .int .i64 ((i+d:Nat):Int)/\Hid (InB T j g7 ws W ev tv d d)/\Hid (∀k l,k<i+d->ls[k]?=some l->Pl.fq l≠none)) (λk _=>i+3-(intOf k).toNat)
   case atStart=>exact⟨0,_,_,zo,rfl,I1,by rw[<-HI3.out];exact HRD⟩
   case round=>
    obtain⟨d,ev,tv,hd,rfl,Lr,HRE⟩:=hrel;obtain⟨k,hk⟩:=ze (i+d);rw[hk];have Vr:=zi hk;clear hk;by_cases Pt:d<3
    ·have hkd:=Vr.out;have q2:(k:Int)<(i:Int)+3:=zo;have pX:k<n:=zo;obtain⟨l,hl⟩:∃l,ls[k]?=some l:=⟨_,aF (by rw[YE.out];exact pX)⟩;obtain⟨b,off,rfl⟩:∃b off,A=some ⟨b,off,none⟩:=Pd.bb.addr (zA YE.out);have J3:Below g5 w wr:=HB.trans (Lr.old.mono zo);have hbr:=Pd.Ee (B:=g5) (P:=(·<w.heap.size)) J3 (λb hb=>by have:b<w.heap.size:=hb;omega);obtain⟨Ak,nk,ck,pH,CF,wJ,hmk,pr,hpk⟩:=hbr.dm hl;have aps:=Lr.aC.lt;have HRK:=Mh Ak ck l wr pr zo zo (λp hp=>by have:p.block<w.heap.size:=hpk p hp;omega);rw[CF]at HRK;obtain⟨HRK,HL⟩:=dz HRK hl;obtain⟨⟨c0,c1,c2⟩,f0,f1,f2⟩:=rV Lr.aC;clear hbr CF pr hpk hl;go_wp2_with fail;refine HRK.mono ?_;rintro e w2 ⟨Tv,A2,n2,fC,ok,rfl,bz,gP,htx⟩;have IN2:Hid (InB T j g7 ws w2 ev tv d d):=Lr.aa bz;have Ww:=zi gP;clear gP c0 c1 c2 f0 f1 f2;cases ok with
     |false=>
      have Yl:Pl.fq l=none:=by
       have:=Ww.out;cases h:Pl.fq l with
       |none=>rfl
       |some t=>rw[h]at this;cases this
      have Uc:=zi Yl;clear Yl;go_wp2_with fail;go_ret2;exact .inl ⟨⟨l,bO HL,Uc⟩,rfl,(J3.mono (by omega:w.heap.size<=g5)).trans ((bz.mono (zA J3.size)).alloc (zC J3.size bz.size) _)⟩
     |true=>
      obtain⟨t,ht⟩:∃t,Pl.fq l=some t:=by
       have:=Ww.out;cases h:Pl.fq l with
       |none=>rw[h]at this;cases this
       |some t=>exact⟨t,rfl⟩
      have HTR:=zi (htx t ht);have Gr:Hid (Pl.ed T (3*j+d)=t):=by rw[Hid,<-HT.out];exact NH (k:=3*j+d) (by rw[HI3.out,Vr.out];exact HL) ht
      have aqW:=zi ((Pl.qK l t).1 ht).1;obtain⟨g9,w3,hg9,fX,bg,B9⟩:=zE w2 147 [.int .i64 Tv,.slice A2 n2 fC];obtain⟨w4,qz,cj⟩:=zF w3 (.cells #[.int .i64 Tv,.slice A2 n2 fC] 147);have S4:Hid (Src w4 (some ⟨w3.heap.size,0,none⟩) [.int .i64 Tv,.slice A2 n2 fC]):=Src.dE (t:=147) (by rw[<-qz];exact ay.new w3 147 _);have Jb:=bg.trans (cj.mono bg.size);obtain⟨IN3,IN4,B94⟩:=kt (IN2.aa bg) (IN2.aa Jb) (B9.aa cj B9.lt);have atu:g7+1<=wr.heap.size:=aps;have R4:Hid (RX (λb=>ev.ownBlock=some b) vY w4 (λb=>g7+1<=b/\b<w4.heap.size/\tv.ownBlock≠some b) [.int .i64 Tv,.slice A2 n2 fC] t):=
       vY.fr (λ_=>False) _ _ w2 w4 _ _ HTR (ag.ae Jb _) (λ_ _ h=>h) (λb hb=>⟨⟨zo,aK hb.2 Jb.size,λe=>by have:=(Lr.PJ.1.lt b e).2;omega⟩,λe=>by have:=(Lr.fG.1.lt b e).2;omega⟩)
      have L4:Hid (((three T j).take d).length<=4294967296):=by rw[Hid,aP];omega
      have H14:Hid (g7+1<=w4.heap.size):=by rw[Hid];have:=Jb.size;have:=bz.size;omega
      obtain⟨⟨c0,c1,c2⟩,f0,f1,f2⟩:=rV IN3.aC;obtain⟨e0,e1,_,_⟩:=aO B9;clear bg cj B9;go_wp2_with (first
       |(at_builtin
         refine oW (v:=tv) (RX.fr vY.fr) rfl (.tmp 35) (.tmp 37) 277 rfl Tryz.underlying277 HJ.out.1 HJ.out.2.1 HJ.out.2.2.1 HJ.out.2.2.2 rfl zj rfl IN4.out.PJ.1 (some ⟨w3.heap.size,0,none⟩) 1 [.int .i64 Tv,.slice A2 n2 fC] t rfl rfl S4.out (by simp;exact⟨rfl,rfl⟩) R4.out L4.out zj H14.out ?_;intro tv5 w5 o5 m5;have o5':OL 147 2 (RX (λb=>ev.ownBlock=some b) vY) w5 (g7+1) tv5 ((three T j).take (d+1)):=by rw[RP (TC T j d Pt),Gr.out];exact o5
         have IN6:=zi (IN4.out.afO m5 o5');have htn:tv.ownBlock≠some g7:=λe=>by have:=(IN4.out.PJ.1.lt g7 e).1;omega
         obtain⟨⟨c0,c1,c2⟩,f0,f1,f2⟩:=rV (m5.only.aC IN4.out.aC (λe=>htn e));have ht9:tv.ownBlock≠some g9:=λe=>by have:=(IN2.out.PJ.1.lt g9 e).2;omega
         have B95:=zi (m5.only.aC B94.out (λe=>ht9 e));obtain⟨A5,lX,cs5,amY,_⟩:=o5.src (RX.fr vY.fr);obtain⟨L5,hL5⟩:=ze (((three T j).take d++ [t]).length);rw[hL5]at amY;have M5:=zi m5;clear o5 o5' m5 hL5;subst amY)
       |fail)
      obtain⟨w6,nC⟩:=ze (w5.setCell ⟨g7,2,none⟩ (.slice A5 L5 lX));have h56:ag (·=g7) w5 w6:=by rw[<-nC];exact(ag.refl (·=g7) w5).zs 2
      rw[nC]at IN6|-
      have h97:g9≠g7:=zC Lr.aC.lt bz.size;have B96:=zi (h56.aC B95 h97);obtain⟨C96,C71⟩:=dz (And.intro (B96.cell 0) (B96.cell 1)) (IN6.aC.cell 1);have h26:ag (λx=>tv.ownBlock=some x\/x=g7) w2 w6:=((ag.ae Jb _).trans M5.only (λ_ _ h=> .inl h)).trans h56 (λ_ _ h=> .inr h);have asA:=zi h26.size;have atj:Hid (vY w6 (λb=>wr.heap.size<=b/\b<w2.heap.size) [.int .i64 Tv,.slice A2 n2 fC] t):=vY.fr _ _ _ _ _ _ _ HTR h26 (λb hb h=>by
       have:=Lr.aC.lt;rcases h with h|h
       ·have:=(Lr.PJ.1.lt b h).2;omega
       ·omega) (λ_ h=>h)
      have rP:IntKind.i64.wrap ((k:Int)+1)=(k:Int)+1:=aY _ zo;have VY:=FB _ (k+1) _ t w6.drew (vY.fr (λ_=>False) _ _ w6 w6.drew _ _ atj (ag.refl _ _).drew (λ_ _ h=>h) (λ_ h=>h)) (λb hb=>aK hb.2 asA) aqW zo;rw[show(((k+1:Nat)):Int)=(k:Int)+1 by omega]at VY;have VY:=zi VY;refine aN 7 (λW=>W.cell? ⟨g7,1,none⟩=some ev) (λW=>W.cell? ⟨g9,0,none⟩=some (.int .i64 Tv)/\W.cell? ⟨g9,1,none⟩=some (.slice A2 n2 fC)) zp C71 C96 (λaz=>?_);refine zt 0 (h:=zl 1 (h:=zt 2 (h:=zt 3 (h:=zt 4 (h:=?_)))));refine zr 5 λK hK=>?_;go_simp;refine VY.mono ?_;rintro e w7 ⟨A7,n7,Cg,rfl,hq⟩;have yM:Below w6.heap.size w6 w7:=cG hq.2.2.2.2;obtain⟨SL7,IN7,B97⟩:=kt (NB.slR hq (by simp[Pl.dK,Pl.entry,Pl.aG])) (IN6.aa yM) (B96.aa yM B96.lt);clear hq;go_wp2_with fail;refine hK.out _ _ ⟨λ_=>IN7.aC.cell 1,B97.cell 0,B97.cell 1⟩ (λaz=>?_);clear hK K;(try simp only[Act.put,zq1,zq2,zP,zq4,zq5,RR]);obtain⟨w8,XO,Ep⟩:=zF w7 (.cells #[.slice A7 n7 Cg] 29);have S8:Hid (Src w8 (some ⟨w7.heap.size,0,none⟩) [.slice A7 n7 Cg]):=Src.dE (t:=29) (by rw[<-XO];exact ay.new w7 29 _);obtain⟨IN8,B98⟩:=dz (IN7.aa Ep) (B97.aa Ep B97.lt);have h67:=yM.size;have R8:Hid (RX (λb=>(Value.slice A5 L5 lX).ownBlock=some b) um w8 (λb=>g7+1<=b/\b<w8.heap.size/\ev.ownBlock≠some b) [.slice A7 n7 Cg] (Pl.dK (k+1) t)):=by rw[Hid];unfold RX;refine um.fr (λ_=>False) _ _ w7 w8 _ _ SL7 (ag.ae Ep _) (λ_ _ h=>h) (λb hb=>?_);have h1:w6.heap.size<=b:=hb.1;exact⟨⟨by have:=IN6.aC.lt;omega,aK hb.2 Ep.size,λe=>by have:=(IN6.fG.1.lt b e).2;omega⟩,λe=>by have:=(IN6.PJ.1.lt b e).2;omega⟩
      have L8:Hid (((Pl.fG T j).take d).length<=4294967296):=by rw[Hid,aP];omega
      have H18:Hid (g7+1<=w8.heap.size):=by rw[Hid];have:=Ep.size;have:=IN6.aC.lt;omega
      clear Ep h67;refine zr 6 λK hK=>?_;go_simp;(try rw[XO]);refine hK.out _ _ ⟨λ_=>IN8.aC.cell 1,B98.cell 0,B98.cell 1⟩ (λaz=>?_);clear hK K;refine zr 7 λK hK=>?_;refine YT (v:=ev) (RX.fr um.fr) rfl (.tmp 41) (.tmp 46) 57 rfl Tryz.underlying57 HI.1 HI.2.1 HI.2.2.1 HI.2.2.2 rfl zj rfl IN8.fG.1 (some ⟨w7.heap.size,0,none⟩) 1 [.slice A7 n7 Cg] (Pl.dK (k+1) t) rfl rfl S8 (by simp;rfl) R8 L8 zj H18 ?_;intro ev9 w9 o9 m9;have o9':OL 29 1 (RX (λb=>(Value.slice A5 L5 lX).ownBlock=some b) um) w9 (g7+1) ev9 ((Pl.fG T j).take (d+1)):=by rw[RP (afT T j d Pt),Gr.out,HI3.out,Vr.out];exact o9
      have aoC:=zi (IN8.afQ m9 o9');have hen:ev.ownBlock≠some g7:=λe=>by have:=(IN8.fG.1.lt g7 e).1;omega
      have he9:ev.ownBlock≠some g9:=λe=>by have:=(IN2.fG.1.lt g9 e).2;omega
      obtain⟨B99,B79⟩:=dz (m9.only.aC B98 (λe=>he9 e)) (m9.only.aC IN8.aC (λe=>hen e));obtain⟨A9,ahl,cs9,apf,_⟩:=o9.src (RX.fr um.fr);obtain⟨L9,hL9⟩:=ze (((Pl.fG T j).take d++ [Pl.dK (k+1) t]).length);rw[hL9]at apf;clear o9 o9' m9 hL9;subst apf;refine hK.out _ _ ⟨zk zp,B99.cell 0,B99.cell 1⟩ (λaz=>?_);clear hK K;refine zt 8 (h:=?_);refine zr 9 λK hK=>?_;obtain⟨⟨d0,d1,d2⟩,g0,g1,g2⟩:=rV B79;go_simp;obtain⟨pZ,Nh⟩:=ze (w9.setCell ⟨g7,1,none⟩ (.slice A9 L9 ahl));have apt:ag (·=g7) w9 pZ:=by rw[<-Nh];exact(ag.refl (·=g7) w9).zs 1
      have anv:=zi (apt.aC B99 h97);rw[Nh]at aoC;(try rw[Nh]);refine hK.out _ _ ⟨zk zp,anv.cell 0,anv.cell 1⟩ (λaz=>?_);clear hK K;(try simp only[Act.put,zq1,zq2,zP,zq4,zq5,RR]);refine bh zp ?_ _;clear az;go_wp2_with fail;refine⟨⟨d+1,_,_,zo,?_,aoC,?_⟩,?_⟩
      ·have:=Vr.out;rw[show i+(d+1)=k+1 by omega];rfl
      ·intro k' l' uk hl';by_cases yX:k'<i+d
       ·exact HRE k' l' yX hl'
       ·have hke:k'=k:=zA Vr.out;subst hke;rw[HL.out]at hl';injection hl' with hl';subst hl';rw[ht];simp
      ·have:=Vr.out;simp[intOf];omega
    ·have hkd:=Vr.out;have apu:d=3:=zo;subst apu;have q2:¬(k:Int)<(i:Int)+3:=zo;have q2':((k:Int)<(i:Int)+3)=False:=by simpa using q2
     obtain⟨IN,HOB,K5w⟩:=kt Lr.out (HO.aa (TS.fr T) (by rw[dP,Uf];exact Lr.old)) (HK5.aa Lr.old QH);obtain⟨Ae,ce,yR,hce,hbr⟩:=(Lr.fG.ol um.fr).br;have hel:((Pl.fG T j).take 3).length=3:=rfl;have Ca:(Pl.fG T j).take 3=Pl.fG T j:=rfl;rw[hel]at yR hce;rw[Ca]at hbr;subst yR;obtain⟨At,ct,cst,htv,og,hst,hrt,hpt⟩:=(Lr.PJ.ol vY.fr).src vY.fr;have Bu:((three T j).take 3).length=3:=rfl;have amI:(three T j).take 3=three T j:=rfl;rw[Bu]at htv og;rw[amI]at hrt;subst htv;obtain⟨Ao,co,cso,hu4,hco,_⟩:=HOB.src (TS.fr T);rw[ru]at hu4 hco;subst hu4;obtain⟨h,hh⟩:=ze (Pl.cK T j);have hhl:h<4294967296:=by rw[<-hh];exact mH (Pl.qp T j) zj
     have Qo:=DK (j+1) h (Pl.fG T j) Ae ce wr zo hhl hbr.bb hce (by rw[Pl.sE];omega);rw[Pl.sE,show Pl.header (j+1) h (Pl.root (Pl.fG T j))=Pl.nE T j by rw[<-hh];rfl,show(((j+1:Nat)):Int)=(j:Int)+1 by omega]at Qo;have Qo:=zi Qo;rw[hh]at K5w;obtain⟨z0,z1,z2,z3⟩:=kV K5w;obtain⟨⟨c0,c1,c2⟩,f0,f1,f2⟩:=rV Lr.aC;have hj1:IntKind.i64.wrap ((j:Int)+1)=(j:Int)+1:=aY _ zo;clear hel Ca Bu amI hh q2';unfold bM at Qo;go_wp2_with fail;refine Qo.mono ?_;rintro e w2 ⟨Ah,nh,ch,rfl,hnh,hch,hbh,hph,bz⟩;obtain⟨K7,K5x⟩:=dz (IN.aC.aa bz IN.aC.lt) (K5w.aa bz K5w.lt);have aih:nh=13:=by rw[<-hnh];exact Pl.eZ _ _ _
     obtain⟨HPH,HNH,uy,eY⟩:=yx hph aih hch bz;obtain⟨w3,fX⟩:=ze (w2.setCell ⟨g7,0,none⟩ (.slice Ah nh ch));have sR:ag (·=g7) w2 w3:=by rw[<-fX];exact(ag.refl (·=g7) w2).zs 0
     have K73:Hid (ay w3 g7 279 [.slice Ah nh ch,.slice Ae 3 ce,.slice At 3 ct]):=by rw[Hid,<-fX];exact K7.bw 0 _
     obtain⟨K53,aom,rS⟩:=kt (sR.aC K5x zo) (hbh.off K7 zu sR) sR;clear z0 z1 z2 z3 c0 c1 c2 f0 f1 f2;obtain⟨⟨c0,c1,c2⟩,f0,f1,f2⟩:=rV K7;obtain⟨⟨d0,d1,d2⟩,_,_,_⟩:=rV K73;have HHS:=pn Ah ch (Pl.nE T j) w3 aom zo;obtain⟨r,hr⟩:=ze (Pl.iZ (Pl.nE T j));have HR:Hid (Pl.cK T (j+1)=r):=by rw[Hid,<-hr];rfl
     rw[hnh,hr]at HHS;unfold bM at HHS;have HHS:=zi HHS;clear hr;clear hnh hch hbh hph bz sR;clear aih;go_wp2_with fail;refine HHS.mono ?_;rintro e w4 ⟨rfl,cj⟩;have K74:=zi (K73.aa cj K73.lt);have K54:=K53.aa cj K53.lt;obtain⟨z0,z1,z2,z3,y0,y1,y2,y3⟩:=eh (a0:= .int .u8 ((h:Int)/16777216)) (a1:= .int .u8 ((h:Int)/65536%256)) (a2:= .int .u8 ((h:Int)/256%256)) (a3:= .int .u8 ((h:Int)%256)) K54;have K55:=ay.R0 (a0:= .int .u8 ((h:Int)/16777216)) (a1:= .int .u8 ((h:Int)/65536%256)) (a2:= .int .u8 ((h:Int)/256%256)) (a3:= .int .u8 ((h:Int)%256)) K54 (.int .u8 ((r:Int)/16777216)) (.int .u8 ((r:Int)/65536%256)) (.int .u8 ((r:Int)/256%256)) (.int .u8 ((r:Int)%256));have kF:=MN (ag.refl (·=g5) w4) (g:=g5) (.inl rfl) (.int .u8 ((r:Int)/16777216)) (.int .u8 ((r:Int)/65536%256)) (.int .u8 ((r:Int)/256%256)) (.int .u8 ((r:Int)%256));obtain⟨w5,wO⟩:=ze ((((w4.setCell ⟨g5,0,none⟩ (.int .u8 ((r:Int)/16777216))).setCell ⟨g5,1,none⟩ (.int .u8 ((r:Int)/65536%256))).setCell ⟨g5,2,none⟩ (.int .u8 ((r:Int)/256%256))).setCell ⟨g5,3,none⟩ (.int .u8 ((r:Int)%256)));rw[wO]at K55 kF;have fj:=(((ag.ae eY (λx=>x=g7\/x=g5)).trans rS (λ_ _ h=> .inl h)).aa cj).trans kF (λ_ _ h=> .inr h);obtain⟨K75,aqP,K55⟩:=kt (kF.aC K74 zo) (kF.bytes (aom.bQ cj) (λp hp e=>by have:=(HPH p hp).1;have:=IN.aC.lt;omega)) K55;have asw:=fj.size;obtain⟨w6,nC,nW⟩:=zF w5 (.cells #[.slice Ah nh ch,.slice Ae 3 ce,.slice At 3 ct] 279);have S6:Hid (Src w6 (some ⟨w5.heap.size,0,none⟩) [.slice Ah nh ch,.slice Ae 3 ce,.slice At 3 ct]):=Src.dE (t:=279) (by rw[<-nC];exact ay.new w5 279 _);have JK:=fj.aa nW;have aim:ag (λx=>x=g7\/x=g5) ws w6:=(ag.ae (by rw[Uf];exact IN.old) _).trans JK (λ_ _ h=>h);have O6:=zi (HO.only (TS.fr T) aim (λx hx hlt h=>by omega));have arE:Hid (Below g5 w w6):=(HB.trans (IN.old.mono zo)).trans (JK.cW (zA IN.aC.lt) (λk hk h=>by omega));have R6:Hid (TS T w6 (λb=>g5+1<=b/\b<w6.heap.size/\(Value.slice Ao j co).ownBlock≠some b) [.slice Ah nh ch,.slice Ae 3 ce,.slice At 3 ct] j):=by
      have hP:∀b,(g7+1<=b/\b<wr.heap.size)->(g5+1<=b/\b<w6.heap.size/\(Value.slice Ao j co).ownBlock≠some b):=λb hb=>⟨zo,aK hb.2 JK.size,λe=>by have:=(HO.lt b e).2;omega⟩;have hF:∀b,(g7+1<=b/\b<wr.heap.size)->¬(b=g7\/b=g5):=λb hb h=>by omega
      refine⟨Ah,nh,ch,Ae,ce,At,ct,cst,rfl,HNH,by have:=uy.out;have:=HNH.out;omega,hce,og,aqP.bQ nW,(hbr.only JK hF).mono hP,JK.src hst (λp hp=>hF _ (hpt p hp)),hrt.mono (λ_ _ _ hx=>vY.fr _ _ _ _ _ _ _ hx JK hF hP),λp hp=>?_,λp hp=>hP _ (hpt p hp)⟩;have h1:=HPH.out p hp;have h2:=IN.aC.lt;have h3:=rS.size;have h4:=cj.size;have h5:=kF.size;have h6:=nW.size;exact⟨zo,zo,λe=>by have:=(HO.lt _ e).2;omega⟩
     have L6:Hid ((List.range j).length<=4294967296):=by rw[Hid,ru];omega
     have H16:Hid (g5+1<=w6.heap.size):=by rw[Hid];have:=nW.size;have:=IN.aC.lt;omega
     have K56:=zi (K55.aa nW K55.lt);clear cj K54 kF fj JK aim nW asw;obtain⟨⟨x0,x1,x2⟩,_,_,_⟩:=rV K75;go_wp2_with (first
      |(at_builtin
        refine oW (v:= .slice Ao j co) (TS.fr T) rfl (.tmp 60) (.tmp 62) 274 rfl Tryz.underlying274 HK.out.1 HK.out.2.1 HK.out.2.2.1 HK.out.2.2.2 rfl zj rfl O6.out (some ⟨w5.heap.size,0,none⟩) 1 [.slice Ah nh ch,.slice Ae 3 ce,.slice At 3 ct] j rfl rfl S6.out (by simp;exact⟨rfl,rfl,rfl⟩) R6.out L6.out zj H16.out ?_;intro v7 w7 o7 m7;have O7:Hid (OL 279 3 (TS T) w7 (g5+1) v7 (List.range (j+1))):=by rw[Hid,jK];exact o7
        have M7:=zi m7;clear o7 m7)
      |fail)
     have arF:(Value.slice Ao j co).ownBlock≠some g5:=λe=>by have:=(O6.lt g5 e).1;omega
     have hI:=HI3.out;refine⟨⟨j+1,zo,by rw[show 3*(j+1)=i+3 by omega];rfl,O7,?_,arE.trans (M7.only.cW (zA H16.out) (λk hk e=>by have:=(O6.lt k e).1;omega)),?_⟩,by simp[intOf];omega⟩
     ·have:=M7.only.aC K56 (λe=>arF e);rw[HR.out];exact this
     ·intro k' l' uk hl';exact HRE k' l' zo hl'
  ·have aqU:j=N:=zo;subst aqU;have q1:¬(i:Int)<(n:Int):=zo;have hsz:w.heap.size<=g5:=zo;clear hi;go_wp2_with fail;go_ret2;refine .inr ⟨λl hl=>?_,_,rfl,?_,HB.mono hsz⟩
   ·obtain⟨k',uk⟩:=lG.1 hl;have hlt:=(cR.1 uk).1;exact HRD k' l (zC YE.out HI3.out) uk
   ·rw[HT.out,HN.out];exact HO.low (TS.fr T) zo
end Go.Proofs.YtbhpofdafhahgaaGreatDoor
