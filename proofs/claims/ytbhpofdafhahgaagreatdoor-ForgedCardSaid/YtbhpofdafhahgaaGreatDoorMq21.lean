/- Part 21: RwR RwS RwT DbIter MemC RwU RwV. -/
import Derived.Maps.RangeWalk
import Derived.Shelf.SlGeneric
import Derived.Shelf.SlIter.Nil
import Derived.Shelf.SortM.Plain
import Derived.Shelf.SortM.SortNone
import Derived.Ground.GgzProg
import Derived.Ground.SlgmProg
import Derived.Test.YtbhpofdafhahgaaGreatDoorMq20
set_option linter.all false
set_option maxHeartbeats 8000000
set_option maxRecDepth 100000
namespace Go.Proofs.YtbhpofdafhahgaaGreatDoor
open Go.RowKit Go.Maps Go.WideMaps
variable [Inhabited eH]
variable {S:iM} {aA:Nat} {ps:List Pl.Pr} {w w':World} {l:List UInt8}
def alq:Value->Nat
 | .slice _ n _=>n
 |_=>0
def Sk(w:World)(A:Option Addr)(m c:Nat)(l:List UInt8):Prop:=l.length=m/\m<=c/\dn w A (bv l) 5
theorem Sk.sf(hS:eP S aA){A:Option Addr}{m c:Nat}(h:Sk w A m c l)(hf:SF S w w')(hA:S.At ps w):Sk w' A m c l:=⟨h.1,h.2.1,SF.eo hS hf hA h.2.2 zj⟩
theorem Sk.cut{w:World}{A:Option Addr}{m c:Nat}{l:List UInt8}(h:Sk w A m c l)(k:Nat)(hk:k<=m):Sk w (if c=k then A else A.map (·.add k)) (m-k) (c-k) (l.drop k):=by
 obtain⟨h1,h2,h3,h4⟩:=h;refine⟨zw,zo,((dn.bytes ⟨h3,h4⟩).cut k c zo zo).src,λp hp=>?_⟩;split at hp
 ·grind
 ·cases A with
  |none=>grind
  |some q=>
   simp only[AY,uH]at hp;subst hp;obtain⟨b,o,pt⟩:=q;have h5:=h4 ⟨b,o,pt⟩ rfl;have e:(Addr.add ⟨b,o,pt⟩ k).block=b:=by unfold Addr.add;grind
   grind
structure RG(S:iM)(gK gM gt:Nat)(b:Pl.Bs)(aA:Nat)(n:Nat)(P0:List Pl.Pr)(w:World)(j:Nat)(l:List UInt8)(ps:List Pl.Pr)(W:World):Prop where
 aC:vZ S gK (.map (some gM)) (.int .i64 (b.count:Nat)) W
 fv:S.At ps W
 tq:p5 W gM gt b.tb
 ctx:Ctx W
 sf:SF S w W
 rest:Pl.auk n (100-j) j l ps=P0
 small:l.length<=100*(100-j)/\j<=100
 few:ps.length+(l.length+99)/100+3<=aA
theorem RG.aa{S:iM}{aA:Nat}(hS:eP S aA){gK gM gt n j:Nat}{b:Pl.Bs}{P0 ps:List Pl.Pr}{w W W':World}{l:List UInt8}(h:RG S gK gM gt b aA n P0 w j l ps W)(hb:dP W W'):RG S gK gM gt b aA n P0 w j l ps W':=
 ⟨h.aC.aa hb h.aC.lt,hS.aa h.fv hb,h.tq.aa hb,h.ctx.aa hb,h.sf.trans (.ae hb),h.rest,h.small,h.few⟩
theorem RG.put(hS:eP S aA){gK gM gt n j:Nat}{b:Pl.Bs}{P0:List Pl.Pr}{W W':World}(h:RG S gK gM gt b aA n P0 w j l ps W)(hl:l≠ [])(ho:¬S.bs gM)(hf:SF S W W')(ha:S.At (Pl.dN (Pl.kP n j) (l.take 100) ps) W'):
 RG S gK gM gt b aA n P0 w (j+1) (l.drop 100) (Pl.dN (Pl.kP n j) (l.take 100) ps) W':=by
 have h0:0<l.length:=zw;have h1:=h.small;have h2:=h.few;have h3:=Pl.jW (Pl.kP n j) (l.take 100) ps;obtain⟨f,hf'⟩:∃f,100-j=f+1:=⟨100-j-1,zo⟩;refine⟨SF.aC hS hf h.fv h.aC zj,ha,h.tq.sf hS hf h.fv ho,h.ctx.gl hf.2.1,h.sf.trans hf,?_,zw,zw⟩;have h4:=h.rest;rw[hf',Pl.KC hl]at h4
 grind
theorem UX(n:Nat)(t:Pl.fh):(Pl.dK n t).length=17:=by simp[Pl.dK,Pl.entry,Pl.aG]
theorem ajm{n i:Nat}:Pl.ey (Pl.kP n i):=wQ zu
theorem Rt(hS:eP S aA)(gK gM gt:Nat)(b:Pl.Bs)(Q:List Pl.fh)(x:Pl.fh)(P:Nat->Prop)(c:List Value)(w:World)(hB:eX S gK gM gt b w)(hc:Ctx w)(hg:Pl.Good Q b)(hr:b.ps.length+20<=aA)
 (hR:∀W,SF S w W->vY W P c x) (hP:∀k,P k->k<w.heap.size) (gP:Pl.nz x):
 bG 170 #[aU gK,.agg c.toArray] w (vW S gK gM gt b (Pl.aup b x) w):=by
 have hR0:=hR w (SF.refl w);obtain⟨A0,aB,cs,rfl,fo,hs,kD,hA⟩:=id hR0;obtain⟨no,hno⟩:=ze x.ops.length;obtain⟨tm,htm⟩:=ze x.time;rw[hno,htm]at hR|-
 obtain⟨g1,w1,nY,dj,aI,B1⟩:=zE w 147 [.int .i64 (sig tm),.slice A0 no aB];have yU:=hB.aa hS aI;obtain⟨cn,Fi⟩:=ze b.count;have CC:cn<1000000:=by rw[<-Fi,hg.jX];exact hg.few
 obtain⟨n,hn⟩:=ze (cn+1);have hwn:IntKind.i64.wrap ((cn:Int)+1)=(n:Int):=by rw[aY _ zo];omega
 have hsn:(cn:Int)+1=(n:Int):=zo;have hwu:IntKind.u64.wrap (n:Int)=n:=by rw[lE];omega
 have kG:n<2000000:=zo;obtain⟨HPY,fJ,HX,HC1⟩:=yx (zM P _ x w1 (hR w1 (.ae aI)) (λk hk=>aK (hP k hk) aI.size) gP) aI (ze7 hB hg hr gP Fi hn hno) (hc.aa aI);obtain⟨x0,x1,_⟩:=aO B1;have k0:=yU.aC.cell 0;have k2:=yU.aC.cell 2;unfold iM.v at k0;simp only[au,aL]at k0 k2;rw[Fi]at k2;have hM3:=hS.adL;have hM4:=hS.acS;clear hB hc hg hr gP hR0 fo hs kD hA aI hno htm Fi;unfold aU;go_enter Tryz.func170,Tryz.ntmps170;go_wp2_with fail;refine HPY.mono ?_;rintro e w2 ⟨A2,m2,c2,rfl,YY,lC,wC,_,bz⟩;obtain⟨P0,hP0⟩:=ze (Pl.partsOf n x b.ps);have EO:=Pl.mg HX.2.2.2.1;have sZ:Hid (RG S gK gM gt b aA n P0 w 0 (Pl.bj x) b.ps w2):=by have h:=yU.aa hS bz;exact⟨h.aC,h.fv,h.tq,HC1.aa bz,.ae (fJ.trans (bz.mono fJ.size)),hP0,⟨zo,zo⟩,by have:=HX.2.2.1;omega⟩
 have HL2:Hid (Sk w2 A2 m2 c2 (Pl.bj x)):=⟨YY,lC,wC⟩;have HX2:=zi (B1.aa bz B1.lt);clear YY lC wC bz EO x0 x1 k0 k2;go_wp2_with fail
 go_loopw [6,7] (λu i wr=>∃(j m ca:Nat) (A:Option Addr) (l:List UInt8) (ps:List Pl.Pr),u= .slice A m ca/\i= .int .i64 (j:Int)/\Hid (Sk wr A m ca l)/\Hid (RG S gK gM gt b aA n P0 w j l ps wr)/\Hid (ay wr g1 147 [.int .i64 (sig tm),.slice A0 no aB])) (λu _ _=>alq u)
 case atStart=>exact⟨0,m2,c2,A2,_,_,rfl,rfl,HL2,sZ,HX2⟩
 case round=>
  obtain⟨j,m,ca,Al,l,ps,rfl,rfl,HL,HS,HXr⟩:=hrel;obtain⟨l7,BJ,rN⟩:=HL.out;by_cases PH:0<m
  ·have q1:(0:Int)<(m:Int):=zo;have hj:j<100:=zA HS.small;have anc:Hid (l≠ []):=λe=>by rw[e]at l7;simp at l7;omega
   obtain⟨k,hk⟩:=ze (min 100 m);have aug:min (100:Int) (m:Int)=(k:Int):=zo;have hk0:1<=k/\k<=m/\k<=100:=zo;have hkc:(k:Int)<=(ca:Int):=zo;have rP:(0:Int)<=(k:Int):=zo;have Ca:Hid (l.take k=l.take 100/\l.drop k=l.drop 100/\(l.take 100).length=k):=by
    rw[Hid];by_cases h:m<=100
    ·have e:k=l.length:=zo;refine⟨?_,?_,by rw[aP];omega⟩
     ·rw[dx zo,dx zo]
     ·rw[ub zo,ub zo]
    ·have e:k=100:=zo;rw[e];exact⟨rfl,rfl,by rw[aP];omega⟩
   have wj:IntKind.u8.wrap (j:Int)=(j:Int):=wrap_u8 zo;have Eu:Hid (∀W,Below wr.heap.size wr W->W.cell? ⟨gK,0,none⟩=some (.iface S.T S.rv)):=λW hW=>(HS.aC.aa hW HS.aC.lt).cell 0;have Xq:Hid (∀W,SF S wr W->W.cell? ⟨gK,0,none⟩=some (.iface S.T S.rv)):=λW hW=>(SF.aC hS hW HS.fv HS.aC zj).cell 0;clear hk l7 BJ rN;have c0:=Eu.out wr (ak _ _);go_wp2_with fail;refine aN 14 (λ_=>True) (λW=>W.cell? ⟨gK,0,none⟩=some (.iface S.T S.rv)) zp trivial (Eu _ (ak _ _).drew) (λaz=>?_);refine zt 0 (h:=zt 1 (h:=zt 2 (h:=zt 3 (h:=zt 4 (h:=zt 5 (h:=zt 6 (h:=zt 9 (h:=zt 10 (h:=zt 11 (h:=zt 12 (h:=zt 13 (h:=?_))))))))))));(try simp only[Act.put,zq1,zq2,zP,zq4,zq5,RR]);obtain⟨wa,EH⟩:=ze (World.alloc wr.drew (.cells #[.int .u8 (j:Int)] 5));have Ba:Hid (Below wr.heap.size wr wa):=by rw[Hid,<-EH];exact cG (show Below wr.heap.size wr.drew (wr.drew.alloc _)from ij wr.drew _)
   have hsa:Src wa (some ⟨wr.drew.heap.size,0,none⟩) (bv [UInt8.ofNat j]):=by rw[<-EH];exact lH wr.drew j zo
   have HNM:=zi (lI 112 n [UInt8.ofNat j] (some ⟨wr.drew.heap.size,0,none⟩) 1 1 wa zj zo rfl zo hsa.bytes);clear hsa;refine zr 7 λK hK=>?_;go_simp;(try rw[EH]);refine hK.out _ _ ⟨λ_=>trivial,Eu _ Ba⟩ (λaz=>?_);clear hK K;refine zr 8 λK hK=>?_;go_simp;refine HNM.mono ?_;rintro e wb ⟨Ab,nb,cb,rfl,Kz,zV,kI,_,dM⟩;have Bb:Hid (Below wr.heap.size wr wb):=Ba.trans (dM.mono Ba.size);have hSb:=HS.aa hS Bb;have agC:=hS.put ps (Pl.kP n j) (l.take 100) Ab Al nb k cb ca wb hSb.fv hSb.ctx ajm (by rw[Ca.2.2];omega) Kz Ca.2.2 (by have:=hSb.few;have h0:=ie.2 anc;omega) kI.bytes ((HL.2.2.bytes.bQ Bb.out).head 100);clear Kz zV kI dM;go_wp2_with fail;refine hK.out _ _ ⟨λ_=>trivial,Eu _ Bb⟩ (λaz=>?_);clear hK K;refine zr 14 λK hK=>?_;go_simp;refine agC.mono ?_;rintro e wc ⟨Sx,hac,rfl⟩;have fj:SF S wr wc:=(SF.ae Bb).trans Sx;obtain⟨HSc,HLc,HXc,HZc⟩:=yx (hSb.put hS anc HX.1.off Sx hac) ((HL.sf hS fj HS.fv).cut k hk0.2.1) (SF.aC hS fj HS.fv HXr zj) (Xq wc fj);rw[Ca.2.1]at HLc;clear Sx hac fj;go_wp2_with fail;refine hK.out _ _ ⟨zk zp,HZc⟩ (λaz=>?_);clear hK K;refine zt 15 (h:=?_);(try simp only[Act.put,zq1,zq2,zP,zq4,zq5,RR]);refine bh zp ?_ _;clear az;have yZ:=qY wc Al m ca k k rfl hk0.2.1;obtain⟨A',hA'⟩:=ze ((if ca=k then Al else Al.map (·.add k)));rw[hA']at yZ HLc;clear c0;go_wp2_with fail;exact⟨⟨j+1,m-k,ca-k,A',_,_,rfl,zu,HLc,HSc,HXc⟩,by show m-k<m;omega⟩
  ·obtain rfl:m=0:=zo;have q1:¬(0:Int)<((0:Nat):Int):=zo;have ZD:l=[]:=qo l7;have jy:=HS.rest;rw[ZD,Pl.Oz]at jy;subst jy;have HPE:=zi hP0;have HSs:=HS.sf;obtain⟨HN1,VY⟩:=dz (λ(W:World)=>lI 101 n [] none 0 0 W zj zo rfl zo (.inl rfl)) (λ(W:World) (hW:Below wr.heap.size wr W)=>FB P n [.int .i64 (sig tm),.slice A0 no aB] x W (hR W (HSs.trans (.ae hW))) (λk hk=>aK (hP k hk) (ao HSs.1.size hW.size)) HX.2.2.2.1 zo);have Eu:Hid (∀W,Below wr.heap.size wr W->W.cell? ⟨gK,0,none⟩=some (.iface S.T S.rv)/\W.cell? ⟨g1,0,none⟩=some (.int .i64 (sig tm))/\W.cell? ⟨g1,1,none⟩=some (.slice A0 no aB)):=λW hW=>by obtain⟨y0,y1,_⟩:=aO (HXr.aa hW HXr.lt);exact⟨(HS.aC.aa hW HS.aC.lt).cell 0,y0,y1⟩
   have Xq:Hid (∀W,SF S wr W->W.cell? ⟨gK,0,none⟩=some (.iface S.T S.rv)/\W.cell? ⟨g1,0,none⟩=some (.int .i64 (sig tm))/\W.cell? ⟨g1,1,none⟩=some (.slice A0 no aB)):=λW hW=>by obtain⟨y0,y1,_⟩:=aO (SF.aC hS hW HS.fv HXr zj);exact⟨(SF.aC hS hW HS.fv HS.aC zj).cell 0,y0,y1⟩
   clear ZD l7 BJ rN HSs;go_wp2_with fail;refine aN 11 (λ_=>True) (λW=>W.cell? ⟨gK,0,none⟩=some (.iface S.T S.rv)/\W.cell? ⟨g1,0,none⟩=some (.int .i64 (sig tm))/\W.cell? ⟨g1,1,none⟩=some (.slice A0 no aB)) zp trivial (Eu _ (ak _ _).drew) (λaz=>?_);refine zt 0 (h:=zt 1 (h:=zt 2 (h:=zt 3 (h:=zt 4 (h:=zt 6 (h:=zt 7 (h:=zt 9 (h:=zt 10 (h:=?_)))))))));refine zr 5 λK hK=>?_;go_simp;refine(HN1 _).mono ?_;rintro e wa ⟨Aa,na,vR,rfl,hna,GJ,hta,_,yH⟩;have Ba:Hid (Below wr.heap.size wr wa):=cG yH;have HKa:=zi (And.intro hna hta);clear hna GJ hta yH;go_wp2_with fail;refine hK.out _ _ ⟨λ_=>trivial,Eu _ Ba⟩ (λaz=>?_);clear hK K;refine zr 8 λK hK=>?_;go_simp;refine(VY wa Ba).mono ?_;rintro e wb ⟨Ab,nb,cb,rfl,Kz,zV,kI,_,dM⟩;have Bb:Hid (Below wr.heap.size wr wb):=Ba.trans (dM.mono Ba.size);have hSb:=HS.aa hS Bb;have agC:=hS.put ps (Pl.kE n) (Pl.dK n x) Aa Ab na nb vR cb wb hSb.fv hSb.ctx (wQ zu) (zA (UX n x)) HKa.1 Kz (zA hSb.few) ((HKa.2.bQ dM).bytes) kI;have Up:=zi agC;clear Kz zV kI dM agC;go_wp2_with fail;refine hK.out _ _ ⟨λ_=>trivial,Eu _ Bb⟩ (λaz=>?_);clear hK K;refine zr 11 λK hK=>?_;go_simp;refine Up.mono ?_;rintro e wq ⟨Sx,hac,rfl⟩;have HFc:Hid (SF S wr wq):=(SF.ae Bb).trans Sx;have HZc:=zi (Xq wq HFc);have HAc:Hid (S.At (Pl.gh n x b.ps) wq):=by unfold Pl.gh;rw[Hid,HPE.out];exact hac
   clear Sx hac;go_wp2_with fail;refine hK.out _ _ ⟨zk zp,HZc⟩ (λaz=>?_);clear hK K;refine zt 12 (h:=?_);(try simp only[Act.put,zq1,zq2,zP,zq4,zq5,RR]);refine bh zp ?_ _;clear az;obtain⟨p1,NW⟩:=ze (Pl.gh n x b.ps);rw[NW]at HAc;obtain⟨p2,QC⟩:=ze ((if n%3=0 then Pl.dN (Pl.kB (n/3)) (Pl.auo p1 (n/3)) p1 else p1));obtain⟨amm,HCc⟩:=dz (SF.aC hS HFc HS.fv HS.aC zj) (HS.ctx.gl HFc.2.1);obtain⟨r,hr⟩:∃r:Nat,(n:Int)%3=(r:Int):=⟨n%3,zo⟩;obtain⟨bq,yj⟩:=ze (((r:Int)==0));have Wu:Hid (n%3=r):=by rw[Hid];omega
   go_upto_if 68 with fail
   rw[hr]
   go_cut [11,12,13]from 69 (λ_ _ _ wx=>Hid (SF S wq wx)/\Hid (S.At p2 wx))
   case first=>
    cases bq with
    |true=>
     have h3:n%3=0:=by rw[Wu.out];simpa using yj
     obtain⟨kb,Kc⟩:=ze (n/3);have CF:n=3*kb:=zo;have rP:1<=kb:=zo;have pK:kb<1000000:=zo;have q2:(n:Int)/3=(kb:Int):=zo;have q4:IntKind.i64.wrap (kb:Int)=(kb:Int):=aY _ zo;obtain⟨aI,bz⟩:=HX.2.1.block x (n:=n) (k:=kb) (by have h1:=HX.2.2.2.2;have h2:=HX.2.1.jX;omega) CF;rw[NW]at aI bz;have Qo:=zi (QB hS gK _ _ p1 kb wq amm HAc HCc zo zo aI bz);have aiD:Hid (Pl.dN (Pl.kB kb) (Pl.auo p1 kb) p1=p2):=by have:=QC;rw[ah h3,Kc]at this;exact this
     clear aI bz CF h3 yj;go_wp2_with fail;refine Qo.mono ?_;rintro e wd ⟨Gy,had,Ad,cd,rfl,hcd,J6⟩;have anh:(Pl.auo p1 kb).length=13:=Pl.eZ _ _ _;rw[anh]at hcd|-
     obtain⟨HBd,HSd⟩:=dz (SF.aC hS Gy HAc amm zj) (sS Gy had J6 (HCc.gl Gy.2.1));have Eu:Hid (∀W,Below wd.heap.size wd W->W.cell? ⟨gK,0,none⟩=some (.iface S.T S.rv)):=λW hW=>(HBd.aa hW HBd.lt).cell 0;have Xq:Hid (∀W,SF S wd W->W.cell? ⟨gK,0,none⟩=some (.iface S.T S.rv)):=λW hW=>(SF.aC hS hW HSd.2.1 HBd zj).cell 0;have HN1:=zi (λ(W:World)=>lI 98 kb [] none 0 0 W zj zo rfl zo (.inl rfl));clear Gy had hcd J6;go_wp2_with fail;refine aN 10 (λ_=>True) (λW=>W.cell? ⟨gK,0,none⟩=some (.iface S.T S.rv)) zp trivial (Eu _ (ak _ _).drew) (λaz=>?_);refine zt 0 (h:=zt 1 (h:=zt 2 (h:=zt 3 (h:=zt 4 (h:=zt 5 (v:=(.int .i64 (kb:Int))) (h:=zt 7 (h:=zt 8 (h:=zt 9 (h:=?_)))))))));refine zr 6 λK hK=>?_;go_simp;refine(HN1 _).mono ?_;rintro e we ⟨Ae,ne,ce,rfl,hne,hce,hte,_,ja⟩;have Be:Hid (Below wd.heap.size wd we):=cG ja;have Up:=zi (hS.put p1 (Pl.kB kb) (Pl.auo p1 kb) Ae Ad ne 13 ce cd we (hS.aa HSd.2.1 Be) (HSd.2.2.2.aa Be) (wQ zu) zo hne anh (by
      have h1:=HS.few;have h2:=Pl.jW (Pl.kE n) (Pl.dK n x) ps;rw[<-HPE.out]at h1 h2;have h4:p1.length<=(Pl.partsOf n x b.ps).length+1:=by rw[<-NW];exact h2
      omega) hte.bytes (HSd.2.2.1.bQ Be.out))
     clear hne hce hte ja;go_wp2_with fail;refine hK.out _ _ ⟨λ_=>trivial,Eu _ Be⟩ (λaz=>?_);clear hK K;refine zr 10 λK hK=>?_;go_simp;refine Up.mono ?_;rintro e wf ⟨hff,haf,rfl⟩;have HFf:Hid (SF S wd wf):=(SF.ae Be).trans hff;have HZf:=zi (Xq wf HFf);have HAf:Hid (S.At p2 wf):=by rw[Hid,<-aiD.out];exact haf
     clear hff haf;go_wp2_with fail;refine hK.out _ _ ⟨zk zp,HZf⟩ (λaz=>?_);clear hK K;refine zt 11 (h:=?_);(try simp only[Act.put,zq1,zq2,zP,zq4,zq5,RR]);refine bh zp ?_ _;clear az;go_wp2_with fail;go_meet;exact⟨HSd.1.trans HFf,HAf⟩
    |false=>
     have h3:¬n%3=0:=by rw[Wu.out];simpa using yj
     have aiD:Hid (p1=p2):=by have:=QC;rw[aj h3]at this;exact this
     clear h3 yj;go_wp2_with fail;go_meet;exact⟨SF.refl _,by rw[Hid,<-aiD.out];exact HAc⟩
   case rest=>
    obtain⟨Sx,hac⟩:=hcut;have HF0:Hid (SF S wr wc):=HFc.trans Sx;obtain⟨HB0,HC0,HT0⟩:=kt (SF.aC hS HF0 HS.fv HS.aC zj) (HS.ctx.gl HF0.2.1) (HS.tq.sf hS HF0 HS.fv HX.1.off);have Eu:Hid (∀W,Below wc.heap.size wc W->W.cell? ⟨gK,0,none⟩=some (.iface S.T S.rv)):=λW hW=>(HB0.aa hW HB0.lt).cell 0;have Xq:Hid (∀W,SF S wc W->W.cell? ⟨gK,0,none⟩=some (.iface S.T S.rv)):=λW hW=>(SF.aC hS hW hac HB0 zj).cell 0;have HP:=zi (λ(W:World)=>sQ (.slice none 0 0) [] n 4 W.heap.size W (Ob.nil _ _) (ai _) zo zj zj zu);have Up:Hid (∀(W:World) (A B:Option Addr) (m ca cb:Nat),Below wc.heap.size wc W->(Pl.be 4 n).length=m->aw W A [UInt8.ofNat 110]->aw W B (Pl.be 4 n)->bG S.Nf #[S.rc,.slice A 1 ca,.slice B m cb] W (UI S (Pl.dN Pl.kN (Pl.be 4 n) p2) wc)):=λW A B m ca cb hW h2 h3 h4=>
     (hS.put p2 Pl.kN (Pl.be 4 n) A B 1 m ca cb W (hS.aa hac hW) (HC0.aa hW) (by unfold Pl.ey Pl.kN;simp) (by rw[Pl.aG];omega) rfl h2 (by
       have h1:=HS.few;have h5:=Pl.jW (Pl.kE n) (Pl.dK n x) ps;rw[<-HPE.out]at h1 h5;have h6:p1.length<=(Pl.partsOf n x b.ps).length+1:=by rw[<-NW];exact h5
       have h7:p2.length<=p1.length+1:=by
        rw[<-QC];split
        ·exact Pl.jW _ _ _
        ·omega
       omega) h3 h4).mono (λe w' ⟨q1,q2,q3⟩=>⟨(SF.ae hW).trans q1,q2,q3⟩)
    go_upto_region 21 with fail
    go_cut [14]from 93 (λs14 wx=>s14= .nilIface/\Hid (SF S wc wx)/\Hid (S.At (Pl.dN Pl.kN (Pl.be 4 n) p2) wx))
    case first=>
     refine aN 11 (λ_=>True) (λW=>W.cell? ⟨gK,0,none⟩=some (.iface S.T S.rv)) zp trivial (Eu _ (ak _ _).drew) (λaz=>?_);refine zt 0 (h:=zt 1 (h:=zt 2 (h:=zt 3 (h:=zt 6 (h:=zt 7 (h:=zt 9 (h:=zt 10 (h:=?_))))))));(try simp only[Act.put,zq1,zq2,zP,zq4,zq5,RR]);refine j6 (rs:=[4,8]) zp zu ?_;refine kX.cons (o:=_) rfl (λK hK=>?_) (kX.cons (o:=_) rfl (λK hK=>?_) kX.nil)
     ·obtain⟨wa,EH⟩:=ze (World.alloc wc.drew (.cells #[.int .u8 110] 5));obtain⟨ga,hga⟩:=ze (Array.size (World.heap wc.drew));have Ba:Hid (Below wc.heap.size wc wa):=by rw[Hid,<-EH];exact cG (show Below wc.heap.size wc.drew (wc.drew.alloc _)from ij wc.drew _)
      have HBa:Hid (wa.heap[ga]?=some (.cells #[.int .u8 110] 5)):=by rw[Hid,<-EH,<-hga];exact heap_alloc_new wc.drew _
      have HGa:Hid (wc.heap.size<=ga):=by rw[Hid,<-hga];exact ai _
      go_simp;(try rw[EH]);(try rw[hga]);refine hK.out _ _ ⟨λ_=>trivial,Eu _ Ba⟩ (λaz=>?_);clear hK K;(try simp only[Act.put,zq1,zq2,zP,zq4,zq5,RR]);refine j6 (rs:=[5,8]) zp zu ?_;refine kX.cons (o:=_) rfl (λK hK=>?_) (kX.cons (o:=_) rfl (λK hK=>?_) kX.nil)
      ·obtain⟨wm,hmk,⟨fz,hm⟩,cM⟩:=Nq (P:=Tryz.prog) (t:=29) (n:=1) HBa Tryz.underlying29 Tryz.underlying5 rfl;have Bm:Hid (Below wc.heap.size wc wm):=Ba.trans (cM.cW Ba.size (λk hk (e:k=ga)=>by have h:=HGa.out;omega));have HSa:Hid (aw wm (some ⟨ga,0,none⟩) [UInt8.ofNat 110]):=tJ zj hm;clear hm cM;go_simp;refine hK.out _ _ ⟨λ_=>trivial,Eu _ Bm⟩ (λaz=>?_);clear hK K;refine zr 8 λK hK=>?_;go_simp;refine(HP (wm)).mono ?_;rintro e wb ⟨vb,rfl,ob,mb⟩;rw[aX]at ob;have dM:Below (wm).heap.size (wm) wb:=mb.only.cW (ai _) (λk hk e=>by cases e);have Bb:Hid (Below wc.heap.size wc wb):=(Bm).trans (dM.mono (Bm).size);obtain⟨Ab,cb,rfl,zV,Lu,Kc⟩:=bJ ob;have HEb:Hid (aw wb Ab (Pl.be 4 n)):=Lu.bytes;obtain⟨nb,Kz⟩:=ze ((Pl.be 4 n).length);rw[Kz];have HPz:=zi (Up wb (some ⟨ga,0,none⟩) Ab nb 1 cb Bb Kz (HSa.bQ dM) HEb);clear ob mb dM zV Lu Kc;go_wp2_with fail;refine hK.out _ _ ⟨λ_=>trivial,Eu _ Bb⟩ (λaz=>?_);clear hK K;refine zr 11 λK hK=>?_;go_simp;refine HPz.mono ?_;rintro e wd ⟨Gy,had,rfl⟩;have HD:=zi (zd Gy had (Xq wd Gy));clear Gy had;go_wp2_with fail;refine hK.out _ _ ⟨zk zp,HD.2.2⟩ (λaz=>?_);clear hK K;refine zt 12 (h:=?_);(try simp only[Act.put,zq1,zq2,zP,zq4,zq5,RR]);refine bh zp ?_ _;clear az;go_wp2_with fail;go_meet;exact⟨rfl,HD.1,HD.2.1⟩
      ·go_simp;refine(HP (wa)).mono ?_;rintro e wb ⟨vb,rfl,ob,mb⟩;rw[aX]at ob;have dM:Below (wa).heap.size (wa) wb:=mb.only.cW (ai _) (λk hk e=>by cases e);have Bb:Hid (Below wc.heap.size wc wb):=(Ba).trans (dM.mono (Ba).size);obtain⟨Ab,cb,rfl,zV,Lu,Kc⟩:=bJ ob;have HEb:Hid (aw wb Ab (Pl.be 4 n)):=Lu.bytes;obtain⟨nb,Kz⟩:=ze ((Pl.be 4 n).length);rw[Kz];have HBb:Hid (wb.heap[ga]?=some (.cells #[.int .u8 110] 5)):=(dM.block ga (yz.1 HBa).1).trans HBa;have HKb:Hid (∀p,Ab=some p->p.block≠ga):=λp hp e=>by have h1:=(ob.lt _ (Kc p hp)).1;have h2:=(yz.1 HBa).1;omega
       clear ob mb dM zV Lu Kc;go_wp2_with fail;refine hK.out _ _ ⟨λ_=>trivial,Eu _ Bb⟩ (λaz=>?_);clear hK K;(try simp only[Act.put,zq1,zq2,zP,zq4,zq5,RR]);obtain⟨wm,hmk,⟨fz,hm⟩,cM⟩:=Nq (P:=Tryz.prog) (t:=29) (n:=1) HBb Tryz.underlying29 Tryz.underlying5 rfl;have Bm:Hid (Below wc.heap.size wc wm):=Bb.trans (cM.cW Bb.size (λk hk (e:k=ga)=>by have h:=HGa.out;omega));have HPz:=zi (Up wm (some ⟨ga,0,none⟩) Ab nb 1 cb Bm Kz (tJ zj hm) (cM.bytes HEb (λp hp e=>HKb p hp e)));clear hm cM;refine zr 5 λK hK=>?_;go_simp;refine hK.out _ _ ⟨λ_=>trivial,Eu _ Bm⟩ (λaz=>?_);clear hK K;refine zr 11 λK hK=>?_;go_simp;refine HPz.mono ?_;rintro e wd ⟨Gy,had,rfl⟩;have HD:=zi (zd Gy had (Xq wd Gy));clear Gy had;go_wp2_with fail;refine hK.out _ _ ⟨zk zp,HD.2.2⟩ (λaz=>?_);clear hK K;refine zt 12 (h:=?_);(try simp only[Act.put,zq1,zq2,zP,zq4,zq5,RR]);refine bh zp ?_ _;clear az;go_wp2_with fail;go_meet;exact⟨rfl,HD.1,HD.2.1⟩
     ·go_simp;refine(HP (wc.drew)).mono ?_;rintro e wb ⟨vb,rfl,ob,mb⟩;rw[aX]at ob;have dM:Below (wc.drew).heap.size (wc.drew) wb:=mb.only.cW (ai _) (λk hk e=>by cases e);have Bb:Hid (Below wc.heap.size wc wb):=((ak wc.heap.size wc).drew).trans (dM.mono ((ak wc.heap.size wc).drew).size);obtain⟨Ab,cb,rfl,zV,Lu,Kc⟩:=bJ ob;have HEb:Hid (aw wb Ab (Pl.be 4 n)):=Lu.bytes;obtain⟨nb,Kz⟩:=ze ((Pl.be 4 n).length);rw[Kz];clear ob mb dM zV Lu Kc;go_wp2_with fail;refine hK.out _ _ ⟨λ_=>trivial,Eu _ Bb⟩ (λaz=>?_);clear hK K;(try simp only[Act.put,zq1,zq2,zP,zq4,zq5,RR]);obtain⟨wa,EH⟩:=ze (World.alloc wb (.cells #[.int .u8 110] 5));obtain⟨ga,hga⟩:=ze (Array.size (World.heap wb));have yH:=zb EH;have Ba:Hid (Below wc.heap.size wc wa):=Bb.trans (yH.mono Bb.size);have HBa:Hid (wa.heap[ga]?=some (.cells #[.int .u8 110] 5)):=by rw[Hid,<-EH,<-hga];exact heap_alloc_new wb _
      have HGa:Hid (wc.heap.size<=ga/\(∀p,Ab=some p->Pl.be 4 n≠ []->p.block<ga)):=by rw[Hid,<-hga];exact⟨Bb.size,λp hp hne=>by obtain⟨b',o',e,h⟩:=HEb.resolve_left hne;rw[e]at hp;injection hp with hp;rw[<-hp];exact dC _ _ (h 0 (by rw[Pl.aG];decide))⟩
      have HEa:=zi (HEb.bQ yH);clear yH;refine zr 4 λK hK=>?_;go_simp;(try rw[EH]);(try rw[hga]);refine hK.out _ _ ⟨λ_=>trivial,Eu _ Ba⟩ (λaz=>?_);clear hK K;(try simp only[Act.put,zq1,zq2,zP,zq4,zq5,RR]);obtain⟨wm,hmk,⟨fz,hm⟩,cM⟩:=Nq (P:=Tryz.prog) (t:=29) (n:=1) HBa Tryz.underlying29 Tryz.underlying5 rfl;have Bm:Hid (Below wc.heap.size wc wm):=Ba.trans (cM.cW Ba.size (λk hk (e:k=ga)=>by have h:=HGa.1;omega));have HPz:=zi (Up wm (some ⟨ga,0,none⟩) Ab nb 1 cb Bm Kz (tJ zj hm) (cM.bytes HEa (λp hp e=>by have:=HGa.2 p hp (by simp[Pl.be]);omega)));clear hm cM;refine zr 5 λK hK=>?_;go_simp;refine hK.out _ _ ⟨λ_=>trivial,Eu _ Bm⟩ (λaz=>?_);clear hK K;refine zr 11 λK hK=>?_;go_simp;refine HPz.mono ?_;rintro e wd ⟨Gy,had,rfl⟩;have HD:=zi (zd Gy had (Xq wd Gy));clear Gy had;go_wp2_with fail;refine hK.out _ _ ⟨zk zp,HD.2.2⟩ (λaz=>?_);clear hK K;refine zt 12 (h:=?_);(try simp only[Act.put,zq1,zq2,zP,zq4,zq5,RR]);refine bh zp ?_ _;clear az;go_wp2_with fail;go_meet;exact⟨rfl,HD.1,HD.2.1⟩
    case rest=>
     obtain⟨rfl,Gy,had⟩:=hcut;have Fb:=SF.aC hS Gy hac HB0 zj;have Iy:=p5.sf hS Gy hac HX.1.off HT0;obtain⟨h1,h2,h3,h4,h5,h6,h7⟩:=HX.out;obtain⟨z0,z1,z2,y0,y1,y2⟩:=dD Fb;have ho:ag (·=gK) wc (wc.setCell ⟨gK,2,none⟩ (.int .i64 (n:Int))):=(ag.refl (·=gK) wc).zs 2;have hne:gM≠gK:=λe=>by obtain⟨f,hf⟩:=Iy.map;exact hf.kz _ (e▸Fb.dV)
     have hbT:p5 (wc.setCell ⟨gK,2,none⟩ (.int .i64 (n:Int))) gM gt b.tb:=by
      cases kI:b.tb with
      |none=>rw[kI]at Iy;exact dX.only Iy ho hne
      |some t=>rw[kI]at Iy;obtain⟨q1,⟨Ac,cc,q2,q3,q4⟩,q5⟩:=Iy;exact⟨q1.only ho hne,⟨Ac,cc,ho.aC q2 (λe=>by have:=(e▸q2:ay wc gK _ _).dV.dv Fb.dV;exact absurd this zj),q3,q4.jL ho (λp hp e=>by have:=(e▸q4.2 p hp:jh wc gK _).dv Fb.dV;exact absurd this zj)⟩,q5⟩
     have hA:S.At (Pl.dN Pl.kN (Pl.be 4 n) p2) (wc.setCell ⟨gK,2,none⟩ (.int .i64 (n:Int))):=hS.kinds had ho (aD Fb) zj zj;have HQ:Hid (vW S gK gM gt b (Pl.aup b x) w (.returned .nilIface) (wc.setCell ⟨gK,2,none⟩ (.int .i64 (n:Int)))):=by
      have hse:Pl.aup b x={b with ps:=Pl.dN Pl.kN (Pl.be 4 n) p2,count:=n}:=by unfold Pl.aup;rw[h5,h6,Pl.Tt,NW,QC]
      refine⟨rfl,gt,?_,.inl rfl,?_⟩
      ·rw[hse];exact⟨Fb.bw 2 _,hA,hbT,h1.off,h1.lo⟩
      ·exact(SF.o (HS.sf.trans (HF0.trans Gy))).trans (LD.lJ ho (λk hk=> .inl hk) (λk hk=>by rw[hk];exact h1.lo.1))
     clear Fb Iy h1 h2 h3 h4 h5 h6 h7 ho hne hbT hA;go_wp2_with fail;go_ret;exact HQ
theorem Ag{key:Value}{kl:Lit}(h:keyOf Tryz.prog 9 key=some kl):∃x:ByteArray,key= .string x/\kl= .string x.data.toList:=by
 have hk:=Tryz.underlying9;cases key<;>simp[keyOf,hk,mapKey]at h
 grind
def UD(b0:Nat)(g2:Nat)(tb:Option Pl.Tb)(has:Lit->Bool)(left:Lit->Bool)(jX:Nat)(W:World):Prop:=
 (dX W g2 0 (λ_=>none) 0/\(∀s,left s=has s)/\jX<=1)\/(∃t g7,tb=some t/\dX W g2 1 (MZ t.name (aU g7)) 1/\wH W g7 t/\b0<=g7/\jX=0)
theorem Ie{g:Nat}(h:w.grownBy w' (some g)):ag (·=g) w w':=⟨h.os,h.tape,h.output,h.size,λk hk hn=>h.block k hk zS⟩
theorem Fx(h:w.grownBy w' none):dP w w':=(ag.cW (F:=λ_=>False) ⟨h.os,h.tape,h.output,h.size,λk hk _=>h.block k hk zu⟩ zo zu)
def Ix(gM gt:Nat)(tb:Option Pl.Tb)(cn:Nat)(w:World)(e:Ending)(w':World):Prop:=
 Below w.heap.size w w'/\∃g2 mJ,e= .returned (.tuple #[.map (some g2),.int .i64 (cn:Nat)])/\p5 w' g2 mJ tb/\w.heap.size<=g2/\(tb.isSome=true->w.heap.size<=mJ)
theorem Ix.aa{gM gt cn:Nat}{tb:Option Pl.Tb}{w w1 w2:World}{e:Ending}(h:Ix gM gt tb cn w e w1)(hb:dP w1 w2):Ix gM gt tb cn w e w2:=by obtain⟨h1,g2,mJ,h2,h3,h4⟩:=h;exact⟨h1.trans (hb.mono h1.size),g2,mJ,h2,h3.aa hb,h4⟩
theorem aaE(gK gM gt:Nat)(b:Pl.Bs)(w:World)(hB:eX S gK gM gt b w)(hc:Ctx w):
 bG 87 #[aU gK] w (Ix gM gt b.tb b.count w):=by
 have hmm:= @run_makeMap Tryz.prog;obtain⟨f,hf⟩:∃f,dX w gM 1 f (if b.tb.isSome then 1 else 0)/\(b.tb=none->∀s,f s=none)/\∀t,b.tb=some t->f=MZ t.name (aU gt)/\wH w gt t/\WU t:=by
  have h:=hB.tq;cases kI:b.tb with
  |none=>rw[kI]at h;exact⟨λ_=>none,dX.mono h (aM _),λ_ _=>rfl,λt ht=>by cases ht⟩
  |some t=>rw[kI]at h;exact⟨_,h.1,(λe=>by cases e),λt' ht=>by injection ht with ht;subst ht;exact⟨rfl,h.2.1,h.2.2.1⟩⟩
 obtain⟨⟨D,bI,hsz,anG,yT⟩,WZ,Fz⟩:=hf;obtain⟨w1,dj⟩:=ze (w.alloc (.map #[] 0));obtain⟨g2,rQ⟩:=ze w.heap.size;have aI:=zb dj;have M1:dX w1 g2 0 (λ_=>none) 0:=by rw[<-dj,<-rQ];exact dX.made w
 have mU:w1.ownsMap Tryz.prog 9 Dl gM 1 D:=by obtain⟨es,clock,h1,h2⟩:=bI;exact⟨es,clock,(aI.block gM (yz.1 h1).1).trans h1,h2⟩
 have Fb:=hB.aC.aa aI hB.aC.lt;have k1:=Fb.cell 1;simp only[au,aL]at k1;obtain⟨cn,Fi⟩:=ze b.count;have HOW:=zi mU;have GX:Hid (Maps.size D<=1):=by rw[Hid,hsz];split<;>omega
 obtain⟨HF,HD,HBK,yy⟩:=yx (And.intro WZ Fz) (And.intro anG yT) hB.aC hc.lo;have HG2:Hid (w.heap.size=g2):=rQ;have TT:Hid (gM<w.heap.size):=by obtain⟨es,clock,h1,h2⟩:=bI;exact(yz.1 h1).1
 have HKY:=Tryz.Cm;rw[Fi];clear hB hc bI hsz anG yT WZ Fz mU Fb;unfold aU;go_enter Tryz.func87,Tryz.ntmps87;go_wp2_with (first
  |(at_range;refine wpList_range_own _ rfl _ 164 rfl 9 _ HKY Tryz.underlying164 _ gM 1 D rfl HOW.out ?_;intro w2 aoG ajv nX)
  |fail)
 go_frame
 obtain⟨r,hr⟩:=ze w1.heap.size;rw[hr]at aoG|-
 have HR:Hid (w1.heap.size=r):=hr;have B2:Hid (Below w.heap.size w w2):=aI.trans ((Fx ajv).mono aI.size);have HC2:Hid (UD w.heap.size g2 b.tb (Maps.has D) (Maps.has D) (Maps.size D) w2):= .inl ⟨M1.aa (Fx ajv),λ_=>rfl,GX⟩;have amL:Hid (g2<r):=by rw[Hid,<-hr];exact M1.lt
 clear k1 ajv nX hr
 go_loopw [5] (λ_ wr=>∃left jX,Hid (wr.ranges Tryz.prog 9 Dl gM r 1 D left jX)/\Hid (Below w.heap.size w wr)/\Hid (UD w.heap.size g2 b.tb (Maps.has D) left jX wr)) (λ_ wr=>wr.rangeLeft gM r)
 case atStart=>exact⟨_,_,aoG,B2,HC2⟩
 case round=>
  obtain⟨left,jX,HRG,Pv,HCr⟩:=hrel;go_wp2_with (first
   |(at_next;refine wpList_next_ranges (α:=ByteArray) (β:=Value) _ rfl _ rfl 9 HKY Dl Value.string id (λkey kl h=>by obtain⟨x,h1,_⟩:=Ag h;exact⟨x,h1⟩) (λv y _=>⟨v,rfl⟩) gM r 1 D left jX rfl HRG.out ?_ ?_)
   |fail)
  ·intro hc0 ZD;have hTS:∃mJ,p5 wr g2 mJ b.tb/\(b.tb.isSome=true->w.heap.size<=mJ):=by
    rcases HCr.out with⟨h1,h2,_⟩|⟨t,g7,h1,h2,h3,h4,h5⟩
    ·cases kI:b.tb with
     |none=>exact⟨0,h1,λh=>by cases h⟩
     |some t=>have e1:=h2 (.string t.name);rw[ZD,HD.1,(HF.2 t kI).1]at e1;simp[MZ,upd]at e1
    ·rw[h1];exact⟨g7,⟨h2,h3,(HF.2 t h1).2.2,.inl (ao yy h4)⟩,λ_=>h4⟩
   obtain⟨mJ,h1,h2⟩:=hTS;have k2:=(HBK.aa Pv HBK.lt).cell 2;simp only[au,aL]at k2;rw[Fi]at k2;have HQ:Hid (Ix gM gt b.tb cn w (.returned (.tuple #[.map (some g2),.int .i64 (cn:Nat)])) wr):=⟨Pv,g2,mJ,rfl,h1,gF HG2,h2⟩;clear h1 h2;go_wp2_with fail;go_quiet (fail);go_wp2_with fail;go_ret2;exact HQ.aa (below_drewN (ak _ _) _)
  ·intro x c kl y1 y2 w3 aju tZ mW hv yT arU hlt ako Er hen;have hx:∃t,b.tb=some t/\x=ar t.name/\c=aU gt/\dX wr g2 0 (λ_=>none) 0/\jX<=1:=by
    obtain⟨x',e1,e2⟩:=Ag tZ;injection e1 with e1;subst e1;rcases HCr.out with⟨h1,h2,h0⟩|⟨t,g7,h1,h2,h3,h4,h5⟩
    ·rw[h2,e2,HD.1]at mW;cases kI:b.tb with
     |none=>rw[HF.1 kI]at mW;cases mW
     |some t=>
      have hf:=(HF.2 t kI).1;rw[hf]at mW;have e3:x.data.toList=t.name:=by
       unfold MZ upd at mW;split at mW
       ·assumption
       ·cases mW
      have e4:f x.data.toList=some (aU gt):=by rw[hf];unfold MZ upd;rw[ah e3]
      have e5:=HD.2 _ _ e4 (.held .nilIface);rw[<-e2,yT]at e5;unfold Dl at hv;injection hv with hv;have e6:=(Prod.mk.inj hv).1;rw[<-e6]at e5;injection e5 with e5;exact⟨t,rfl,by rw[<-e3];rfl,e5,h1,h0⟩
    ·omega
   obtain⟨t,kI,rfl,rfl,PH,rX⟩:=hx;obtain⟨_,hTb,hTo⟩:=HF.2 t kI;have b3:Below w.heap.size wr w3:=(Ie ako).cW Pv.size (λk hk (e:k=r)=>by have h1:=HR.out;have h2:=aI.size;omega);have B3:Hid (Below w.heap.size w w3):=Pv.trans b3;obtain⟨Ac,cc,Iy,Qi,SE⟩:=hTb.aa B3;obtain⟨nm,pj⟩:=ze t.name;obtain⟨nc,wJ⟩:=ze t.aZ.length;obtain⟨lo,fu⟩:=ze t.lost;have PK:nm.length<=8:=by rw[<-pj];exact hTo.1.1.2
   rw[pj,wJ,fu]at Iy;rw[pj]at hen|-
   rw[wJ]at Qi;obtain⟨y0,y1,y2,_⟩:=dD Iy;obtain⟨g7,w4,Uf,qz,cj,B4⟩:=zE w3 245 [.string (ar nm),.slice Ac nc cc,.int .i64 (lo:Nat)];have hm3:dX w3 g2 0 (λ_=>none) 0:=PH.only (Ie ako) (λ(e:g2=r)=>by have:=amL.out;omega);obtain⟨w5,hrun,hm5,kF⟩:=(hm3.aa cj).store Tryz.underlying164 (by unfold maxLen;omega) nm zo (.pointer (some ⟨g7,0,none⟩));have anq:w.heap.size<=g7:=by rw[<-Uf];exact B3.size
   have hne:g2≠g7:=by have h1:=hm3.lt;omega
   have b5:Below w.heap.size w3 w5:=(cj.mono B3.size).trans (kF.cW (ao B3.size cj.size) (λk hk (e:k=g2)=>by have:=HG2.out;omega));have B5:Hid (Below w.heap.size w w5):=B3.trans b5;have aof:=(arU.kept (row:=none) ⟨cj.os,cj.tape,cj.output,cj.size,λi hi _=>cj.block i hi⟩ zu zu).kept (row:=some g2) ⟨kF.os,kF.tape,kF.output,kF.size,λi hi hn=>kF.block i hi (λe=>hn (by rw[e]))⟩ (by have:=TT.out;have:=HG2.out;simp;omega) (by have:=amL.out;simp;omega);have alX:=zi aof;have HC5:Hid (UD w.heap.size g2 b.tb (Maps.has D) (λz=>left z&&!z.sameKey kl) aju w5):=by
    refine .inr ⟨t,g7,kI,?_,⟨Ac,cc,?_,?_,?_⟩,anq,zo⟩
    ·rw[pj];exact hm5
    ·rw[pj,wJ,fu];exact kF.aC B4 (λe=>hne e.symm)
    ·rw[wJ];exact Qi
    ·exact(SE.bQ cj).jL kF (λp hp e=>hm3.kz _ (e▸SE.2 p hp))
   have HLE:Hid (aju<jX):=hlt;clear tZ mW hv yT ako Er PH rX hTb hTo b3 Iy Qi SE pj wJ fu cj B4 hm3 hm5 kF anq hne b5 aof kI;unfold aU at hen|-
   go_wp2_with fail;exact⟨⟨_,aju,alX,B5,HC5⟩,by rw[alX.left_eq,HRG.left_eq];exact HLE⟩
theorem Uv(g:Nat):uK S [] 165 #[.pointer (some ⟨g,0,none⟩)] (λ_ O W=>S.At [] W/\∀k,¬O k) where
 enter:=λx W=>by simp[go_sem]
 dm:=λh=>h.1
 sf:=λh _ ha=>⟨ha,h.2⟩
 lt:=λh k hk=>(h.2 k hk).elim
 call:=λW p A B ca cb nk nv done O hJ _ hd=>by simp at hd
def aeF(S:iM)(w:World)(e:Ending)(w':World):Prop:=
 SF S w w'/\∃gK gM,e= .returned (.tuple #[aU gK,.nilIface])/\eX S gK gM 0 ⟨[],none,0⟩ w'/\w.heap.size<=gK/\w.heap.size<=gM
theorem MB(hS:eP S aA)(Qj:YZ S [])(w:World)(hA:S.At [] w)(hc:Ctx w)(tA:∀k,S.bs k->k<w.heap.size):
 bG 101 #[S.v] w (aeF S w):=by
 have hmm:= @run_makeMap Tryz.prog;obtain⟨gM,hgM⟩:=ze w.heap.size;obtain⟨w1,dj,aI⟩:=zF w (.map #[] 0);have M1:dX w1 gM 0 (λ_=>none) 0:=by rw[<-dj,<-hgM];exact dX.made w
 have ma:w1.heap.size=gM+1:=by rw[<-dj,<-hgM];simp
 obtain⟨w2,iA⟩:=ze (w1.alloc (.cells #[.iface S.T S.rv,.map (some gM),.int .i64 0] 203));obtain⟨w3,fX⟩:=ze (w2.alloc (.cells #[aU (gM+1)] 141));obtain⟨w4,qz⟩:=ze (w3.alloc (.cells #[.int .u8 110] 5 (1,2)));obtain⟨w5,wO⟩:=ze (w4.alloc (.cells #[.int .u8 99] 5 (1,2)));have bz:=zb iA;have bg:=zb fX;have cj:=zb qz;have nX:w2.heap.size=gM+2:=by rw[<-iA];simp[ma]
 have Er:w3.heap.size=gM+3:=by rw[<-fX];simp[nX]
 have B2:ay w2 (gM+1) 203 [.iface S.T S.rv,.map (some gM),.int .i64 0]:=by rw[<-iA,<-ma];exact ay.new w1 203 _
 have B3:ay w3 (gM+2) 141 [aU (gM+1)]:=by rw[<-fX,<-nX];exact ay.new w2 141 _
 have hN4:aw w4 (some ⟨gM+3,0,none⟩) [UInt8.ofNat 110]:=tJ zj (fz:=(1,2)) (by rw[<-qz,<-Er];show(w3.heap.push _)[w3.heap.size]?=_;exact BN);have EN:=kO (P:=Tryz.prog) w3 29 5 #[.int .u8 110] 1 Tryz.underlying29 Tryz.underlying5 rfl;rw[qz,Er]at EN;have dM:Below w.heap.size w w4:=((aI.trans (bz.mono aI.size)).trans (bg.mono (ao aI.size bz.size))).trans (cj.mono (ao aI.size (ao bz.size bg.size)));have hG:=hS.get [] [UInt8.ofNat 110] (some ⟨gM+3,0,none⟩) 1 1 w4 (hS.aa hA dM) (hc.aa dM) ⟨zj,zj⟩ rfl hN4;have HM4:=((M1.aa bz).aa bg).aa cj;have HG:=hgM;have eI:=B3.aa cj B3.lt;have eY:=(B2.aa bg B2.lt).aa cj (B2.aa bg B2.lt).lt;have hmg:=hS.aeP;have heg:=hS.ads;unfold iM.v;unfold aU at fX;go_enter Tryz.func101,Tryz.ntmps101;go_wp2_with fail;refine hG.mono ?_;rintro e w6 ⟨hf6,ha6,⟨l,_,_,h1,_⟩|⟨_,rfl⟩⟩
 ·simp[Pl.dI]at h1
 have bg:=SF.aC hS hf6 (hS.aa hA dM) eI zj;have bz:=SF.aC hS hf6 (hS.aa hA dM) eY zj;have apU:SF S w w6:=(SF.ae dM).trans hf6;have wG:∀k,w.heap.size<=k->¬S.bs k:=λk hk h=>by have:=tA k h;omega
 have hM6:dX w6 gM 0 (λ_=>none) 0:=dX.sf HM4 hf6 (wG gM (gF HG));have hc6:Ctx w6:=(hc.aa dM).gl hf6.2.1;have HI1:=NU 8 8 w6;obtain⟨r,hr⟩:=ze w6.heap.size;obtain⟨w7,MI,yM⟩:=zF w6 (.cells #[.int .u8 99] 5 (1,2));have hN7:aw w7 (some ⟨r,0,none⟩) [UInt8.ofNat 99]:=tJ zj (fz:=(1,2)) (by rw[<-MI,<-hr];show(w6.heap.push _)[w6.heap.size]?=_;exact BN);have YY:=kO (P:=Tryz.prog) w6 29 5 #[.int .u8 99] 1 Tryz.underlying29 Tryz.underlying5 rfl;rw[MI,hr]at YY;have hB7:mG w7 (some ⟨r,0,none⟩) [UInt8.ofNat 99]:=⟨hN7,λq hq=>by injection hq with hq;subst hq;exact⟨_,_,by rw[<-MI,<-hr];show(w6.heap.push _)[w6.heap.size]?=_;exact BN⟩⟩;have HE:=JQ hS Qj (Uv (S:=S) (gM+2)) (λ_=>False) [UInt8.ofNat 99] (some ⟨r,0,none⟩) 1 1 w7 ⟨hS.aa ha6 yM,λ_ h=>h⟩ (hc6.aa yM) rfl zj zj hB7 (λ_ _ h=>h);have asQ:=bg.aa yM bg.lt;have apy:=apU.trans (.ae yM);have HA7:=hS.aa ha6 yM;have HM7:=hM6.aa yM;have arQ:=bz.aa yM bz.lt;unfold ajw;go_wp2_with fail;refine HI1.mono ?_;rintro e w8 ⟨rfl,rfl⟩;go_wp2_with fail;refine HE.mono ?_;rintro e w9 ⟨rfl,O',⟨ha9,_⟩,_,Yz,hg9,hy9⟩;have agk:SF S w7 w9:=⟨Yz.mono (λ_ h=>h) (λ_ h=>h.elim id False.elim),hg9,hy9.mono (λ_ h=>h) (λ_ h=>h.elim id False.elim)⟩;have arK:=SF.aC hS agk HA7 arQ zj;have asM:=SF.aC hS agk HA7 asQ zj;have hm9:=dX.sf HM7 agk (wG gM (gF HG));have c9:=asM.cell 0;unfold aU at c9;simp only[au]at c9;have fu:=hc.lo;have HQ:(aeF S w (.returned (.tuple #[aU (gM+1),.nilIface])) w9):=⟨apy.trans agk,gM+1,gM,rfl,⟨arK,ha9,hm9,wG gM (gF HG),⟨.inl (zA HG),.inl (zA HG)⟩⟩,by have:=HG;omega,gF HG⟩;go_wp2_with fail;go_ret2;exact HQ
end Go.Proofs.YtbhpofdafhahgaaGreatDoor
namespace Go.Proofs
open Go.RowKit Go.Maps Go.Sort Go.Shelf
def Tryz.FZ:Go.Shelf.Ren:=⟨λ|7=>345|10=>348|n=>n,λ|23=>270|26=>9|3=>29|28=>434|0=>0|27=>433|33=>267|4=>4|n=>n,λ|n=>n⟩
theorem Tryz.Yo:Go.Proofs.SlLaysZ.n7 Tryz.prog Tryz.FZ:={
 mixed:=zp
 f7:=⟨Tryz.f345.name,zj,Tryz.func345.trans (congrArg some zp)⟩
 f10:=⟨Tryz.f348.name,zj,Tryz.func348.trans (congrArg some zp)⟩
 t0:=Tryz.underlying0
 a0:=Tryz.isAgg0
 z0:=Tryz.sizeOf0
 v0:=Tryz.zeroValue0
 t4:=Tryz.underlying4
 a4:=Tryz.isAgg4
 z4:=Tryz.sizeOf4
 v4:=Tryz.zeroValue4
 t23:=Tryz.underlying270
 a23:=Tryz.isAgg270
 z23:=Tryz.sizeOf270
 v23:=Tryz.zeroValue270
 t26:=Tryz.underlying9
 a26:=Tryz.isAgg9
 z26:=Tryz.sizeOf9
 v26:=Tryz.zeroValue9
 t27:=Tryz.underlying433
 a27:=Tryz.isAgg433
 z27:=Tryz.sizeOf433
 v27:=Tryz.zeroValue433
 t28:=Tryz.underlying434
 a28:=Tryz.isAgg434
 z28:=Tryz.sizeOf434
 v28:=Tryz.zeroValue434
 t33:=Tryz.underlying267
 a33:=Tryz.isAgg267
 z33:=Tryz.sizeOf267
 v33:=Tryz.zeroValue267}
def Tryz.zU:Go.Shelf.Ren:=⟨λ|6=>344|8=>346|9=>347|11=>349|13=>351|12=>350|23=>361|24=>362|14=>352|15=>353|16=>354|17=>355|18=>356|19=>357|20=>358|21=>359|22=>360|25=>363|26=>364|27=>365|28=>366|29=>367|30=>368|31=>369|n=>n,λ|26=>9|28=>434|24=>380|0=>0|3=>3|37=>188|48=>134|50=>187|4=>4|40=>442|39=>441|45=>325|5=>5|9=>9|51=>449|55=>453|57=>455|58=>456|33=>267|n=>n,λ|n=>n⟩
theorem Tryz.aaO:Go.Proofs.SlLaysZ.n6 Tryz.prog Tryz.zU:={
 mixed:=zp
 f6:=⟨Tryz.f344.name,zj,Tryz.func344.trans (congrArg some zp)⟩
 f8:=⟨Tryz.f346.name,zj,Tryz.func346.trans (congrArg some zp)⟩
 f11:=⟨Tryz.f349.name,zj,Tryz.func349.trans (congrArg some zp)⟩
 t0:=Tryz.underlying0
 a0:=Tryz.isAgg0
 z0:=Tryz.sizeOf0
 v0:=Tryz.zeroValue0
 t24:=Tryz.underlying380
 a24:=Tryz.isAgg380
 z24:=Tryz.sizeOf380
 v24:=Tryz.zeroValue380
 t26:=Tryz.underlying9
 a26:=Tryz.isAgg9
 z26:=Tryz.sizeOf9
 v26:=Tryz.zeroValue9
 t28:=Tryz.underlying434
 a28:=Tryz.isAgg434
 z28:=Tryz.sizeOf434
 v28:=Tryz.zeroValue434
 i26:=by kernel_rfl}
def Tryz.Se:Go.Shelf.Ren:=⟨λ|6=>347|8=>351|9=>350|19=>361|20=>362|21=>352|22=>353|23=>354|24=>355|25=>356|26=>357|27=>358|28=>359|29=>360|36=>363|31=>364|32=>365|37=>366|38=>367|39=>368|41=>369|n=>n,λ|27=>380|29=>9|3=>3|32=>188|26=>380|0=>0|44=>134|46=>187|4=>4|36=>442|35=>441|41=>325|5=>5|9=>9|53=>449|57=>453|63=>455|64=>456|n=>n,λ|n=>n⟩
theorem Tryz.YP:Go.Proofs.SlLaysM.n6 Tryz.prog Tryz.Se:={
 mixed:=zp
 f6:=⟨Tryz.f347.name,zj,Tryz.func347.trans (congrArg some zp)⟩
 f8:=Tryz.func351.trans (congrArg some zp)
 f9:=⟨Tryz.f350.name,zj,Tryz.func350.trans (congrArg some zp)⟩
 f19:=Tryz.func361.trans (congrArg some zp)
 f20:=Tryz.func362.trans (congrArg some zp)
 f21:=⟨Tryz.f352.name,zj,Tryz.func352.trans (congrArg some zp)⟩
 f22:=⟨Tryz.f353.name,zj,Tryz.func353.trans (congrArg some zp)⟩
 f23:=⟨Tryz.f354.name,zj,Tryz.func354.trans (congrArg some zp)⟩
 f24:=⟨Tryz.f355.name,zj,Tryz.func355.trans (congrArg some zp)⟩
 f25:=⟨Tryz.f356.name,zj,Tryz.func356.trans (congrArg some zp)⟩
 f26:=⟨Tryz.f357.name,zj,Tryz.func357.trans (congrArg some zp)⟩
 f27:=⟨Tryz.f358.name,zj,Tryz.func358.trans (congrArg some zp)⟩
 f28:=⟨Tryz.f359.name,zj,Tryz.func359.trans (congrArg some zp)⟩
 f29:=⟨Tryz.f360.name,zj,Tryz.func360.trans (congrArg some zp)⟩
 f31:=Tryz.func364.trans (congrArg some zp)
 f32:=Tryz.func365.trans (congrArg some zp)
 f36:=⟨Tryz.f363.name,zj,Tryz.func363.trans (congrArg some zp)⟩
 f37:=⟨Tryz.f366.name,zj,Tryz.func366.trans (congrArg some zp)⟩
 f38:=⟨Tryz.f367.name,zj,Tryz.func367.trans (congrArg some zp)⟩
 f39:=⟨Tryz.f368.name,zj,Tryz.func368.trans (congrArg some zp)⟩
 f41:=⟨Tryz.f369.name,zj,Tryz.func369.trans (congrArg some zp)⟩
 t0:=Tryz.underlying0
 a0:=Tryz.isAgg0
 z0:=Tryz.sizeOf0
 v0:=Tryz.zeroValue0
 t3:=Tryz.underlying3
 a3:=Tryz.isAgg3
 z3:=Tryz.sizeOf3
 v3:=Tryz.zeroValue3
 t4:=Tryz.underlying4
 a4:=Tryz.isAgg4
 z4:=Tryz.sizeOf4
 v4:=Tryz.zeroValue4
 t5:=Tryz.underlying5
 a5:=Tryz.isAgg5
 z5:=Tryz.sizeOf5
 v5:=Tryz.zeroValue5
 t9:=Tryz.underlying9
 a9:=Tryz.isAgg9
 z9:=Tryz.sizeOf9
 v9:=Tryz.zeroValue9
 t26:=Tryz.underlying380
 a26:=Tryz.isAgg380
 z26:=Tryz.sizeOf380
 v26:=Tryz.zeroValue380
 t27:=Tryz.underlying380
 a27:=Tryz.isAgg380
 z27:=Tryz.sizeOf380
 v27:=Tryz.zeroValue380
 t29:=Tryz.underlying9
 a29:=Tryz.isAgg9
 z29:=Tryz.sizeOf9
 v29:=Tryz.zeroValue9
 t32:=Tryz.underlying188
 a32:=Tryz.isAgg188
 z32:=Tryz.sizeOf188
 v32:=Tryz.zeroValue188
 t35:=Tryz.underlying441
 a35:=Tryz.isAgg441
 z35:=Tryz.sizeOf441
 v35:=Tryz.zeroValue441
 t36:=Tryz.underlying442
 a36:=Tryz.isAgg442
 z36:=Tryz.sizeOf442
 v36:=Tryz.zeroValue442
 t41:=Tryz.underlying325
 a41:=Tryz.isAgg325
 z41:=Tryz.sizeOf325
 v41:=Tryz.zeroValue325
 t44:=Tryz.underlying134
 a44:=Tryz.isAgg134
 z44:=Tryz.sizeOf134
 v44:=Tryz.zeroValue134
 t46:=Tryz.underlying187
 a46:=Tryz.isAgg187
 z46:=Tryz.sizeOf187
 v46:=Tryz.zeroValue187
 t53:=Tryz.underlying449
 a53:=Tryz.isAgg449
 z53:=Tryz.sizeOf449
 v53:=Tryz.zeroValue449
 t57:=Tryz.underlying453
 a57:=Tryz.isAgg453
 z57:=Tryz.sizeOf453
 v57:=Tryz.zeroValue453
 t63:=Tryz.underlying455
 a63:=Tryz.isAgg455
 z63:=Tryz.sizeOf455
 v63:=Tryz.zeroValue455
 t64:=Tryz.underlying456
 a64:=Tryz.isAgg456
 z64:=Tryz.sizeOf456
 v64:=Tryz.zeroValue456}
theorem Tryz.aek(m:Nat):AnyZ.SortsIn Tryz.prog Tryz.zU Fence.wide m:=
 ⟨λaC off aB ss W hH EU hsz=>callsIn_wide.2 (AnyM.slices_Sort_string Tryz.YP aC off aB ss W hH EU hsz),
  λp aB W=>callsIn_wide.2 (AnyM.slices_Sort_string_none Tryz.YP p aB W)⟩
theorem Tryz.KZ(mb:Option Nat)(W:World):CallsIn Fence.wide 5 Tryz.prog 345 #[.map mb] W λe w'=>e= .returned (.func (.func 348) #[] #[.pointer (some ⟨W.heap.size,0,none⟩)])/\w'=W.alloc (.cells #[.map mb] 270):=
 AnyZ.keys_in Tryz.Yo Fence.wide 5 trivial rfl mb W
theorem Tryz.qE{H:Type}(b nn:Nat)(D0:DataW H)(R:Value->Option (DataW H×List MemPlace))(w:World)(bI:w.ownsMap Tryz.prog 9 R b nn D0)(arh:Maps.size D0<=maxLen)(kS:Maps.size D0*16<=140737488355328):
 CallsIn Fence.wide 5 Tryz.prog 344 #[.func (.func 348) #[] #[.pointer (some ⟨w.heap.size,0,none⟩)]] (w.alloc (.cells #[.map (some b)] 270)) λe w'=>∃(v:Value) (ss:List (List UInt8)),e= .returned v/\ss.Perm (strKeys D0)/\
  w'.ownsRow (w.alloc (.cells #[.map (some b)] 270)).heap.size 9 1 v ss.length ((ss.mergeSort (λx y=>decide (x<=y))).map encStr)/\(v= .slice none 0 0↔ss=[])/\Below (w.alloc (.cells #[.map (some b)] 270)).heap.size (w.alloc (.cells #[.map (some b)] 270)) w':=by
 have yg:=bI.lt;have apJ:SeqGives Fence.wide 2 Tryz.prog 348 #[.pointer (some ⟨w.heap.size,0,none⟩)] encStr (λss=>ss.Perm (strKeys D0)) (Maps.size D0) (w.alloc (.cells #[.map (some b)] 270)):=
  AnyZ.keys_gives (ρ:=Tryz.FZ) {Tryz.Yo with} Fence.wide _ trivial rfl zo w.heap.size b nn D0 _ zu zu (by
   obtain⟨es,clock,hb,Ft,hs,hD⟩:=bI;exact⟨es,clock,(Below.heap_alloc _ _ b yg).trans hb,Ft,hs,hD⟩)
 exact AnyZ.sorted_in Tryz.aaO Fence.wide 5 trivial trivial trivial trivial rfl zo (Tryz.aek _) (enters_of Tryz.func347 zp rfl) 348 #[.pointer (some ⟨w.heap.size,0,none⟩)] trivial (enters_of Tryz.func348 zp rfl) _ _ arh kS _ apJ
end Go.Proofs
namespace Go.Proofs.YtbhpofdafhahgaaGreatDoor
open Go.RowKit Go.Maps Go.WideMaps
variable [Inhabited eH]
variable {w:World} {b:Pl.Bs} {S:iM} {aA k gm rm:Nat}
theorem dX.empty{b n:Nat}{f:List UInt8->Option Value}(h:dX w b n f 0):w.ownsMap Tryz.prog 9 Dl b n (.map []):=by
 obtain⟨D,bI,hsz,_⟩:=h;obtain⟨es,e⟩:=bI.isMap;subst e;have:es=[]:=qo hsz
 grind
theorem Rc(gm aA:Nat)(fk:Pl.Key)(A:Option Addr)(n ca:Nat)(w:World)(hA:nU gm aA [] w):
 bG 342 #[Ry gm,.slice A n ca,.int .i64 16] w (afk (wK gm aA) [] fk w):=by
 obtain⟨g,w1,hg,dj,aI,B1⟩:=zE w 272 [.map (some gm)];have c0:=cA B1;have Uk:=hA.aa aI;obtain⟨f,WZ,_⟩:=Uk.map;have bI:=dX.empty WZ;obtain⟨HK,HS⟩:=dz (callsIn_wide.1 (Tryz.KZ (some gm) w1)) (callsIn_wide.1 (Tryz.qE gm 0 (.map []) Dl w1 bI (by simp[Maps.size]) (by simp[Maps.size])));unfold Ry;clear hA WZ bI B1;go_enter Tryz.func342,Tryz.ntmps342;go_wp2_with fail;refine HK.mono ?_;rintro e w2 ⟨rfl,rfl⟩;go_wp2_with fail;refine HS.mono ?_;rintro e w3 ⟨v,ss,rfl,hp,_,aoJ,bg⟩;have hss:ss=[]:=List.Perm.eq_nil (by simpa [strKeys] using hp);obtain rfl:=aoJ.2 hss;have eI:=zi ((ij w1 (.cells #[.map (some gm)] 270)).trans (bg.mono (ij w1 _).size));have q1:¬(0:Int)<0:=zo;clear hp aoJ bg hss;go_wp2_with fail
 go_loopw [8,16] (λo i wr=>o= .slice none 0 0/\i= .int .i64 0/\w3=wr) (λ_ _ _=>0)
 case atStart=>exact⟨rfl,rfl,rfl⟩
 case round=>obtain⟨rfl,rfl,rfl⟩:=hrel;go_wp2_with fail;go_ret2;have fj:=aI.trans (eI.mono aI.size);exact⟨.ae fj,Uk.aa eI,_,rfl,⟨[],dA _ _ _ _,fW.nil _ _⟩⟩
theorem agL(gm aA:Nat):YZ (wK gm aA) [] where
 aeQ:=Tryz.Rl _
 abr:=λa w=>by simp[go_sem,wK]
 scan:=λfk A n ca w hA _ _ _ _=>Rc gm aA fk A n ca w hA
theorem Qv(A B:Option Addr)(l m:List UInt8)(n k ca cb:Nat)(w:World)(hn:l.length=n)(hk:m.length=k)(ha:aw w A l)(hb:aw w B m):
 bG 172 #[.slice A n ca,.slice B k cb] w λe w'=>e= .returned (.bool (l==m))/\w'=w:=by
 have h1:=dQ w A l ca ha;have h2:=dQ w B m cb hb;rw[hn]at h1;rw[hk]at h2;go_enter Tryz.func172,Tryz.ntmps172;go_wp2_with fail;go_ret;exact⟨congrArg (λb=>Ending.returned (.bool b)) (qU l m),rfl⟩
theorem nU.sf{S:iM}{aA rm gm:Nat}(hS:eP S aA){ps qs:List Pl.Pr}{w w':World}(h:nU gm rm qs w)(hf:SF S w w')(hA:S.At ps w)(hn:¬S.bs gm):nU gm rm qs w':=by obtain⟨h1,h2,h3,h4,f,h5,h6,h7⟩:=h;refine⟨h1,h2,h3,h4,f,dX.sf h5 hf hn,h6,λk l hl=>?_⟩;obtain⟨A,aB,e1,e2,e3⟩:=h7 k l hl;exact⟨A,aB,e1,e2,SF.eo hS hf hA e3 zj⟩
structure ahC(S:iM)(ps:List Pl.Pr)(gm rm gx gs gc:Nat)(done:List Pl.Pr)(O:Nat->Prop)(W:World):Prop where
 fv:S.At ps W
 mem:nU gm rm ps W
 off:¬S.bs gm
 bx:ay W gx 272 [.map (some gm)]
 bS:ay W gs 4 [.bool true]
 bC:ay W gc 3 [.int .i64 (done.length:Nat)]
 lo:LO<=gs/\LO<=gc
 own:∀k,O k↔k=gs\/k=gc
theorem Va(hS:eP S aA)(hroom:aA<=100000)(ps:List Pl.Pr)(gm rm gx gs gc:Nat)(W:World)(p:Pl.Pr)(A B:Option Addr)(ca cb nk nv:Nat)(done:List Pl.Pr)(O:Nat->Prop)(hJ:ahC S ps gm rm gx gs gc done O W)(hd:done.length<ps.length)(hp:p∈ps)(CF:p.key.length=nk)(wP:p.val.length=nv)(hA:mG W A p.key)(hB:mG W B p.val):
 bG 171 #[.agg #[.slice A nk ca,.slice B nv cb],.pointer (some ⟨gx,0,none⟩),.pointer (some ⟨gs,0,none⟩),.pointer (some ⟨gc,0,none⟩)] W λe W'=>e= .returned .nilIface/\∃O',ahC S ps gm rm gx gs gc (done++ [p]) O' W'/\(∀k,O' k->O k\/W.heap.size<=k)/\ag O W W':=by
 obtain⟨hst,Nl,wG,hbx,hbS,Dy,fu,bI⟩:=hJ;have bU:=hS.len hst;obtain⟨g1,w1,nY,dj,aI,B1⟩:=zE W 206 [.slice A nk ca,.slice B nv cb];obtain⟨y0,y1,_,_⟩:=aO B1;obtain⟨y2,y3,_,_⟩:=aO B1;have x0:=cA (hbx.aa aI hbx.lt);have hS1:=hbS.aa aI hbS.lt;have hC1:=Dy.aa aI Dy.lt;have s0:=cA hS1;have sf:=hS1.frozen 0;have c0:=cA hC1;have cf:=hC1.frozen 0;obtain⟨f,WZ,Fz,FC⟩:=(Nl.aa aI).map;obtain⟨m,hm⟩:=ze done.length;rw[hm]at c0;have tN:Pl.dI p.key ps=some p.val:=Pl.RJ (hS.uo hst) hp;obtain⟨C,aB,e1,e2,e3⟩:=FC p.key p.val tN;have alp:p.key.length<=40:=(Nl.fit p hp).1.2;have mW:=WZ.look_ok Tryz.underlying270 (Tryz.LZ w1) p.key zo;rw[e1,wP]at mW;simp only[lU,oQ]at mW;have hcv:(convert 29 9 (.slice A nk ca)).run Tryz.prog w1= .ok (.string (ar p.key)) w1:=by rw[<-CF];exact dQ w1 A p.key ca ((hA.aa aI).1)
 have HEQ:=Qv C B p.val p.val nv nv aB cb w1 wP wP e3.bytes (hB.aa aI).1;rw[show(p.val==p.val)=true from beq_self_eq_true _]at HEQ;have hne:gs≠gc:=λe=>by have:=(hbS.dV).dv (e▸Dy.dV);cases this
 have HEQ:=HEQ;have fJ:=aI;have HX:=ze8 hst Nl wG hbx hbS Dy fu bI;have hwr:IntKind.i64.wrap ((m:Int)+1)=((m+1:Nat):Int):=by rw[aY _ zo];omega
 go_enter Tryz.func171,Tryz.ntmps171;go_wp2_with fail;refine HEQ.mono ?_;rintro e w2 ⟨rfl,rfl⟩;have afG:gc≠gs:=λe=>hne e.symm;go_wp2_with fail;go_ret;obtain⟨hst,Nl,wG,hbx,hbS,Dy,fu,bI⟩:=id HX;obtain⟨w3,fX⟩:=ze ((w2.setCell ⟨gs,0,none⟩ (.bool true)).setCell ⟨gc,0,none⟩ (.int .i64 ((m:Int)+1)));rw[fX];have aI:=fJ;have fw:ag O w2 w3:=by rw[<-fX];exact((ag.refl O w2).setCell (p:=⟨gs,0,none⟩) (.inl ((bI gs).2 (.inl rfl))) _).setCell (p:=⟨gc,0,none⟩) (.inl ((bI gc).2 (.inr rfl))) _
 have pQ:ag O W w3:=(ag.ae aI O).aE fw;have hsp:kM O W [4,3]:=λx t ht hn hx=>by
  rcases(bI x).1 hx with e|e
  ·subst e;exact hn (by rw[ht.dv hbS.dV];simp)
  ·subst e;exact hn (by rw[ht.dv Dy.dV];simp)
 have asy:¬O gm:=λe=>by
  obtain⟨f,hf,_⟩:=Nl.map;rcases(bI gm).1 e with e|e
  ·exact hf.kz _ (e▸hbS.dV)
  ·exact hf.kz _ (e▸Dy.dV)
 refine⟨rfl,O,⟨hS.bQ hst pQ hsp zj (λ_=>by decide) (λx hx hf=>?_),Nl.bQ pQ hsp zj asy,wG,hbx.sp pQ hsp zj,?_,?_,fu,bI⟩,λk hk=> .inl hk,pQ⟩
 ·rcases(bI x).1 hf with e|e
  ·exact hS.bsT hst hx (e▸hbS.dV)
  ·exact hS.bsT hst hx (e▸Dy.dV)
 ·rw[<-fX];exact((hbS.aa aI hbS.lt).bw 0 _).mK (p:=⟨gc,0,none⟩) hne _
 ·rw[<-fX,ax,dy,hm];have:=(((Dy.aa aI Dy.lt).mK (p:=⟨gs,0,none⟩) afG (.bool true))).bw 0 (.int .i64 ((m:Int)+1));exact this
theorem WK(hS:eP S aA)(hroom:aA<=100000)(ps:List Pl.Pr)(gm rm gx gs gc:Nat):uK S ps 171 #[.pointer (some ⟨gx,0,none⟩),.pointer (some ⟨gs,0,none⟩),.pointer (some ⟨gc,0,none⟩)] (ahC S ps gm rm gx gs gc) where
 enter:=λx W=>by simp[go_sem]
 dm:=λh=>h.fv
 sf:=λ{done O W W'} h hf ha=>⟨ha,h.mem.sf hS hf h.fv h.off,h.off,SF.aC hS hf h.fv h.bx zj,SF.aC hS hf h.fv h.bS zj,SF.aC hS hf h.fv h.bC zj,h.lo,h.own⟩
 lt:=λ{done O W} h k hk=>by
  rcases(h.own k).1 hk with e|e
  ·subst e;exact⟨h.bS.lt,.inl h.lo.1⟩
  ·subst e;exact⟨h.bC.lt,.inl h.lo.2⟩
 call:=λW p A B ca cb nk nv done O hJ _ hd hp CF wP _ _ hA hB _ _=>Va hS hroom ps gm rm gx gs gc W p A B ca cb nk nv done O hJ hd hp CF wP hA hB
def pW(aA:Nat)(b:Pl.Bs)(o:Pl.jb):Prop:=
 Pl.p8 o/\b.ps.length+20<=aA/\((o.kind=1/\b.tb=none)\/(o.kind=2/\∃t n rest,b.tb=some t/\o.table=t.name/\Ns t.aZ o.row/\o.row=⟨1,n,[]⟩::rest/\n<9223372036854775808/\Pl.dI (Pl.aus t o) b.ps=none))
def ux(aA:Nat):Pl.Bs->List Pl.jb->Prop
 |_,[]=>True
 |b,o::os=>pW aA b o/\ux aA (Pl.aul b o).2 os
def CZ(b:Pl.Bs)(x:Pl.fh):Pl.Bs:=Pl.aup (Pl.nK b x.ops) x
def fH(b:Pl.Bs)(xs:List Pl.fh):Pl.Bs:=xs.foldl CZ b
def kv(aA:Nat):Pl.Bs->List Pl.fh->Prop
 |_,[]=>True
 |b,x::xs=>Pl.nz x/\ux aA b x.ops/\(Pl.nK b x.ops).ps.length+20<=aA/\kv aA (CZ b x) xs
theorem ux.dm{aA:Nat}:∀{os:List Pl.jb} {b:Pl.Bs} (_:ux aA b os) {k:Nat} {o:Pl.jb},os[k]?=some o->pW aA (Pl.nK b (os.take k)) o
 | [],_,_,_,_,h=>by cases h
 |a::os,b,hf,0,o,h=>by injection h with h;subst h;exact hf.1
 |a::os,b,hf,k+1,o,h=>by rw[qq];exact ux.dm (os:=os) (b:=(Pl.aul b a).2) hf.2 h
theorem PZ{os:List Pl.jb}{o:Pl.jb}(h:os[k]?=some o):Pl.nK b (os.take (k+1))=(Pl.aul (Pl.nK b (os.take k)) o).2:=by unfold Pl.nK;rw[eK,h,rz];rfl
theorem kv.dm{aA:Nat}:∀{xs:List Pl.fh} {b:Pl.Bs} (_:kv aA b xs) {k:Nat} {x:Pl.fh},xs[k]?=some x->Pl.nz x/\ux aA (fH b (xs.take k)) x.ops/\(Pl.nK (fH b (xs.take k)) x.ops).ps.length+20<=aA
 | [],_,_,_,_,h=>by cases h
 |a::os,b,hf,0,o,h=>by injection h with h;subst h;exact⟨hf.1,hf.2.1,hf.2.2.1⟩
 |a::os,b,hf,k+1,o,h=>by rw[qq];exact kv.dm (xs:=os) (b:=CZ b a) hf.2.2.2 h
theorem QK{xs:List Pl.fh}{x:Pl.fh}(h:xs[k]?=some x):fH b (xs.take (k+1))=CZ (fH b (xs.take k)) x:=by unfold fH;rw[eK,h,rz];rfl
theorem OI(os:List Pl.jb):∀b:Pl.Bs,(Pl.nK b os).count=b.count:=by
 induction os with
 |nil=>intro b;rfl
 |cons o os ih=>intro b;exact(ih _).trans (Pl.vE b o)
theorem Good.PJ:∀(xs P:List Pl.fh) (b:Pl.Bs),Pl.Good P b->(∀x∈xs,Pl.nz x)->P.length+xs.length<1000000->Pl.Good (P++xs) (fH b xs)
 | [],P,b,h,_,_=>by rw[dH];exact h
 |x::xs,P,b,h,hx,hl=>by have h1:=Pl.mg (hx x zu);have h2:Pl.Good (P++ [x]) (CZ b x):=(h.ops x.ops).Xr x zo zw;have h3:=Good.PJ xs (P++ [x]) (CZ b x) h2 zS zw;rw[cJ]at h3;exact h3
theorem I7(hS:eP S aA)(gK gM gt:Nat)(b:Pl.Bs)(P:Nat->Prop)(c:List Value)(o:Pl.jb)(w:World)(hB:eX S gK gM gt b w)(hc:Ctx w)(hf:pW aA b o)(hR:∀W,SF S w W->OP W P c o)(hP:∀k,P k->k<w.heap.size)(kj:b.count<1000000000):
 bG 168 #[aU gK,.agg c.toArray] w (vW S gK gM gt b (Pl.aul b o).2 w):=by
 obtain⟨gP,hr,⟨hk,kI⟩|⟨hk,t,n,rest,kI,htn,jn,nT,hn,hno⟩⟩:=hf
 ·exact MU hS gK gM gt b P c o w hB kI hc zo (hR w (.refl w)) hP gP hk
 ·exact NG hS gK gM gt b t P c o n rest w hB kI hc zo hR gP hk htn jn nT hn hno kj
theorem LD.XT{own:Nat->Prop}{a b:World}(h:LD (wK gm rm) own a b):ag (λk=>k=gm\/own k) a b:=by obtain⟨F,h1,h2⟩:=h.2.2;exact h1.mono (λk _ hk=>(h2 k hk).elim (λ⟨t,ht,_⟩=>by cases ht) id)
theorem SF.new{F:Nat->Prop}{a b:World}(h:SF S w a)(ho:ag F a b)(hF:∀k,F k->w.heap.size<=k)(fu:LO<=w.heap.size):SF S w b:=
 ⟨h.1.te ⟨F,ho,λ_ hx=> .inr hx⟩ (λx hl hx=>by grind),h.2.1.aE (ho.mono (λk _ hk=> .inl (ao fu (hF k hk)))),h.2.2.te ⟨F,ho,λ_ hx=> .inr hx⟩ (λx hl hx=>by grind)⟩
theorem Nm{a b:World}(h:SF (wK gm rm) a b):ag (λk=>k=gm) a b:=(LD.XT (own:=λ_=>False) h.o).mono zu
structure vz(S:iM)(gK:Nat)(tm cn:Value)(ps:List Pl.Pr)(w:World)(gx gm rm p7 p6:Nat)(b:Pl.Bs)(mJ:Nat)(W:World):Prop where
 sf:SF S w W
 fv:S.At ps W
 ctx:Ctx W
 aC:vZ S gK tm cn W
 bx:ay W gx 272 [.map (some gm)]
 mem:eX (wK gm rm) p7 p6 mJ b W
 new:w.heap.size<=gm/\w.heap.size<=p7/\w.heap.size<=p6/\w.heap.size<=mJ
 lt:mJ<W.heap.size
 own:gK<w.heap.size
theorem eX.osf(hS:eP S aA){ps:List Pl.Pr}{gK gM gt:Nat}{w':World}(h:eX (wK gm rm) gK gM gt b w)(hf:SF S w w')(hA:S.At ps w)(h1:¬S.bs gm)(h2:¬S.bs gM):eX (wK gm rm) gK gM gt b w':=
 ⟨SF.aC hS hf hA h.aC zj,nU.sf hS h.fv hf hA h1,p5.sf hS hf hA h2 h.tq,h.off,h.lo⟩
section
variable {S:iM} {aA gK:Nat} {tm cn:Value} {ps:List Pl.Pr} {w W W':World} {gx gm rm p7 p6 mJ:Nat} {b:Pl.Bs}
variable {S:iM} {gK gM gt:Nat} {b:Pl.Bs} {w:World}
theorem vz.step(hS:eP S aA)(tA:∀k,S.bs k->k<w.heap.size)(h:vz S gK tm cn ps w gx gm rm p7 p6 b mJ W)(hf:SF S W W')(ha:S.At ps W'):vz S gK tm cn ps w gx gm rm p7 p6 b mJ W':=by
 have wG:∀k,w.heap.size<=k->¬S.bs k:=λk hk h=>by grind
 exact⟨h.sf.trans hf,ha,h.ctx.gl hf.2.1,SF.aC hS hf h.fv h.aC zj,SF.aC hS hf h.fv h.bx zj,eX.osf hS h.mem hf h.fv (wG _ h.new.1) (wG _ h.new.2.2.1),h.new,aK h.lt hf.1.size,h.own⟩
theorem vz.aa(hS:eP S aA)(tA:∀k,S.bs k->k<w.heap.size)(h:vz S gK tm cn ps w gx gm rm p7 p6 b mJ W)(hb:dP W W'):vz S gK tm cn ps w gx gm rm p7 p6 b mJ W':=
 h.step hS tA (.ae hb) (hS.aa h.fv hb)
def Zf(gm p7 p6 mJ:Nat)(tb:Option Pl.Tb)(k:Nat):Prop:=k=gm\/ZV p7 p6 mJ tb k
theorem vz.akK(h:vz S gK tm cn ps w gx gm rm p7 p6 b mJ W):kM (Zf gm p7 p6 mJ b.tb) W [203,245]:=λk t ht hn hk=>by
 rcases hk with e|e|e|⟨e1,e2⟩
 ·obtain⟨f,hf,_⟩:=h.mem.fv.map;exact hf.kz t zw
 ·exact hn (by subst e;rw[ht.dv h.mem.aC.dV];simp)
 ·obtain⟨f,hf⟩:=h.mem.tq.map;exact hf.kz t zw
 ·have h1:=h.mem.tq;cases kI:b.tb with
  |none=>grind
  |some t'=>rw[kI]at h1;obtain⟨_,⟨Ac,cc,h2,_⟩,_⟩:=h1;exact hn (by subst e2;rw[ht.dv h2.dV];simp)
theorem vz.news(h:vz S gK tm cn ps w gx gm rm p7 p6 b mJ W):∀k,Zf gm p7 p6 mJ b.tb k->w.heap.size<=k:=λk hk=>by
 rcases hk with e|e|e|⟨e1,e2⟩
 ·exact e▸h.new.1
 ·exact e▸h.new.2.1
 ·exact e▸h.new.2.2.1
 ·exact e2▸h.new.2.2.2
theorem eX.lt_(h:eX S gK gM gt b w)(ht:b.tb.isSome=true):gt<w.heap.size:=by
 have h1:=h.tq;cases kI:b.tb with
 |none=>grind
 |some t'=>rw[kI]at h1;obtain⟨_,⟨Ac,cc,h2,_⟩,_⟩:=h1;exact h2.lt
theorem eX.any(h:eX S gK gM gt b w)(ht:b.tb=none)(g:Nat):eX S gK gM g b w:=
 ⟨h.aC,h.fv,by have:=h.tq;rw[ht]at this|-;exact this,h.off,h.lo⟩
theorem vz.book(hS:eP S aA)(tA:∀k,S.bs k->k<w.heap.size)(fu:LO<=w.heap.size){b':Pl.Bs}{e:Ending}(h:vz S gK tm cn ps w gx gm rm p7 p6 b mJ W)(hq:vW (wK gm rm) p7 p6 mJ b b' W e W'):
 e= .returned .nilIface/\ag (Zf gm p7 p6 mJ b.tb) W W'/\∃nA,(nA=mJ\/W.heap.size<=nA)/\vz S gK tm cn ps w gx gm rm p7 p6 b' nA W':=by
 obtain⟨he,nA,SG,hg,hf⟩:=hq;have ho:ag (Zf gm p7 p6 mJ b.tb) W W':=hf.XT;have hsz:=h.sf.1.size;obtain⟨NS,bg,Cr,rN⟩:∃NS,eX (wK gm rm) p7 p6 NS b' W'/\(NS=mJ\/W.heap.size<=NS)/\NS<W'.heap.size:=by
  cases kI:b'.tb with
  |none=>exact⟨mJ,SG.any kI mJ,.inl rfl,aK h.lt ho.size⟩
  |some t=>exact⟨nA,SG,hg,SG.lt_ zw⟩
 refine⟨he,ho,NS,Cr,h.sf.new ho h.news fu,hS.bQ h.fv ho h.akK zj zu (λx hx hk=>?_),h.ctx.gl (ho.mono (λk _ hk=> .inl (ao fu (h.news k hk)))),?_,h.bx.sp ho h.akK zj,bg,⟨h.new.1,h.new.2.1,h.new.2.2.1,?_⟩,rN,h.own⟩
 ·have:=h.news x hk
  grind
 ·exact ho.aC h.aC (λhk=>by have:=h.news _ hk;have:=h.own;omega)
 ·have:=h.new.2.2.2;omega
structure JV(S:iM)(gK:Nat)(tm cn:Value)(ps:List Pl.Pr)(w:World)(gx gm rm p7 p6 gX:Nat)(B T:Nat)(c:List Value)(x:Pl.fh)(b:Pl.Bs)(mJ:Nat)(W:World):Prop where
 sn:vz S gK tm cn ps w gx gm rm p7 p6 b mJ W
 tx:vY W (λk=>B<=k/\k<T) c x
 bX:ay W gX 147 c
 off:mJ<B\/T<=mJ
 afm:gm<B/\p7<B/\p6<B
 top:T<=W.heap.size
theorem JV.aa{gX B T:Nat}{c:List Value}{x:Pl.fh}(hS:eP S aA)(tA:∀k,S.bs k->k<w.heap.size)(h:JV S gK tm cn ps w gx gm rm p7 p6 gX B T c x b mJ W)(hb:dP W W'):JV S gK tm cn ps w gx gm rm p7 p6 gX B T c x b mJ W':=
 ⟨h.sn.aa hS tA hb,h.tx.only (ag.ae hb (λ_=>False)) zu,h.bX.aa hb h.bX.lt,h.off,h.afm,ao h.top hb.size⟩
theorem JV.aqM{gX B T:Nat}{c:List Value}{x:Pl.fh}(h:JV S gK tm cn ps w gx gm rm p7 p6 gX B T c x b mJ W):∀k,B<=k/\k<T->¬Zf gm p7 p6 mJ b.tb k:=λk hk hm=>by have h1:=h.off;have h2:=h.afm;rcases hm with e|e|e|⟨_,e⟩<;>omega
theorem JV.book{gX B T:Nat}{c:List Value}{x:Pl.fh}(hS:eP S aA)(tA:∀k,S.bs k->k<w.heap.size)(fu:LO<=w.heap.size){b':Pl.Bs}{e:Ending}(h:JV S gK tm cn ps w gx gm rm p7 p6 gX B T c x b mJ W)(hq:vW (wK gm rm) p7 p6 mJ b b' W e W'):
 e= .returned .nilIface/\ag (Zf gm p7 p6 mJ b.tb) W W'/\∃nA,JV S gK tm cn ps w gx gm rm p7 p6 gX B T c x b' nA W':=by
 obtain⟨he,ho,nA,hg,hn⟩:=h.sn.book hS tA fu hq;have h1:=h.off;have h2:=h.top;exact⟨he,ho,nA,hn,h.tx.only ho h.aqM,h.bX.sp ho h.sn.akK zj,zo,h.afm,ao h2 ho.size⟩
end
end Go.Proofs.YtbhpofdafhahgaaGreatDoor
