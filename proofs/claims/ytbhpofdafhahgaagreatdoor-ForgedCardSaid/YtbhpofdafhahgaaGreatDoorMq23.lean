/- Part 23: ClashG ClashH ClashI ClashP FgA DbLock DyA DyB DyC DyD DyE DyF. -/
import Derived.Conc.MuLone
import Derived.Conc.MuData
import Derived.KernelRfl
import Derived.Test.YtbhpofdafhahgaaGreatDoorMq22
set_option linter.all false
set_option maxHeartbeats 8000000
set_option maxRecDepth 100000
namespace Go.Proofs.YtbhpofdafhahgaaGreatDoor
open Go.RowKit
variable {lo i d k:Nat} {T U:List Pl.fh} {W:World} {av bv:Value}
variable (w:World) (n m:Nat) (ls ms:List (List UInt8)) (e:Ending) (w':World) (A B:Option Addr) (aB fC:Nat)
def DI(lo:Nat)(w:World)(B:Nat)(A:Option Addr)(T:List Pl.fh)(N:Nat):Prop:=∃cs,Src w A cs/\fW 3 (TS T w (λb=>lo<=b/\b<B)) cs (List.range N)/\∀p,A=some p->p.block<B
theorem DI.bQ{w w':World}{B N:Nat}{A:Option Addr}(h:DI lo w B A T N)(hb:Below B w w'):DI lo w' B A T N:=by obtain⟨cs,h1,h2,h3⟩:=h;have ho:ag (λb=>B<=b) w w':=⟨hb.os,hb.tape,hb.output,hb.size,λk _ hn=>hb.block k zo⟩;exact⟨cs,ho.src h1 zS,h2.mono (λ_ _ _ hx=>TS.fr T _ _ _ _ _ _ _ hx ho zu zu),h3⟩
theorem OL.bks{w:World}{aq N:Nat}{v:Value}(h:OL 279 3 (TS T) w aq v (List.range N)):∃A aB,v= .slice A N aB/\N<=aB/\DI aq w w.heap.size A T N:=by obtain⟨A,aB,cs,rfl,h1,h2,h3,h4⟩:=h.src (TS.fr T);rw[ru]at h1;exact⟨A,aB,zu,h1,cs,h2,zw,zS⟩
theorem DI.more{w:World}{B B' N:Nat}{A:Option Addr}(h:DI lo w B A T N)(hb:B<=B'):DI lo w B' A T N:=by obtain⟨cs,h1,h2,h3⟩:=h;exact⟨cs,h1,h2.mono (λ_ _ _ hx=>TS.fr T (λ_=>False) _ _ _ _ _ _ hx (ag.refl _ _) zu (λb SG=>zo)),λp hp=>by grind⟩
structure ack(lo:Nat)(w:World)(B:Nat)(T:List Pl.fh)(i b off:Nat)(Ah:Option Addr)(ch:Nat)(Ae:Option Addr)(ce:Nat)(At:Option Addr)(ct:Nat):Prop where
 c0:w.cell? ⟨b,off+i*3,none⟩=some (.slice Ah 13 ch)
 c1:w.cell? ⟨b,off+i*3+1,none⟩=some (.slice Ae 3 ce)
 c2:w.cell? ⟨b,off+i*3+2,none⟩=some (.slice At 3 ct)
 hd:aw w Ah (Pl.nE T i)
 fu:∀p,Ah=some p->lo<=p.block
 h13:13<=ch
 he:3<=ce
 ht:3<=ct
 fG:BR w (·<B) Ae (Pl.fG T i)
 PJ:∃cs,Src w At cs/\fW 2 (vY w (·<B)) cs (three T i)
theorem DI.dm{lo:Nat}{w:World}{B N i:Nat}{A:Option Addr}{T:List Pl.fh}(h:DI lo w B A T N)(hi:i<N):∃b off Ah ch Ae ce At ct,A=some ⟨b,off,none⟩/\ack lo w B T i b off Ah ch Ae ce At ct:=by obtain⟨cs,h1,h2,h3⟩:=h;obtain⟨c,⟨Ah,nh,ch,Ae,ce,At,ct,cst,rfl,rfl,a1,a2,a3,a4,a5,a6,a7,a8,a9⟩,_,hc⟩:=h2.dm (k:=i) (x:=i) zw;have e0:=hc 0 zo;have e1:=hc 1 zo;have e2:=hc 2 zo;simp only[au,aL]at e0 e1 e2;obtain⟨b,off,rfl,g0⟩:=h1.dm _ _ e0;have g1:=h1.cell _ _ e1;have g2:=h1.cell _ _ e2;rw[cI]at g0;rw[<-ew]at g1 g2;exact⟨b,off,Ah,ch,Ae,ce,At,ct,rfl,g0,g1,g2,a4,zS,a1,a2,a3,a5.mono zu,cst,a6,a7.mono (λ_ _ _ h=>h.mono zu)⟩
theorem ack.tx{w:World}{B:Nat}{b off:Nat}{Ah:Option Addr}{ch:Nat}{Ae:Option Addr}{ce:Nat}{At:Option Addr}{ct:Nat}(h:ack lo w B T i b off Ah ch Ae ce At ct)(hd:d<3):
 ∃bt ot v0 v1,At=some ⟨bt,ot,none⟩/\w.cell? ⟨bt,ot+d*2,none⟩=some v0/\w.cell? ⟨bt,ot+d*2+1,none⟩=some v1/\vY w (·<B) [v0,v1] (Pl.ed T (3*i+d)):=by
 obtain⟨cs,h1,h2⟩:=h.PJ;obtain⟨c,hx,_,hc⟩:=h2.dm (TC T i d hd);obtain⟨A,aB,GV,rfl,hh⟩:=hx;have e0:=hc 0 zo;have e1:=hc 1 zo;simp only[au,aL]at e0 e1;obtain⟨bt,ot,rfl,g0⟩:=h1.dm _ _ e0;have g1:=h1.cell _ _ e1;rw[cI]at g0;rw[<-ew]at g1;exact⟨bt,ot,_,_,rfl,g0,g1,A,aB,GV,rfl,hh⟩
def QA(k:Nat):Value:= .iface 30 (.int .i64 (k:Int))
def mR:Prop:=
 Below w.heap.size w w'/\
 ((¬(ls.length=ms.length/\ls.length≠0/\ls.length%3=0/\(∀l∈ls,Pl.fq l≠none)/\∀l∈ms,Pl.fq l≠none)/\e= .returned (.tuple #[.slice none 0 0,.slice none 0 0,QA 20]))\/
  (ls.length=ms.length/\ls.length≠0/\ls.length%3=0/\(∀l∈ls,Pl.fq l≠none)/\(∀l∈ms,Pl.fq l≠none)/\
    (((Pl.cK (fI ls) (ls.length/3)≠Pl.cK (fI ms) (ls.length/3)\/Pl.dG (fI ls) (fI ms) (ls.length/3)=none)/\e= .returned (.tuple #[.slice none 0 0,.slice none 0 0,QA 21]))\/
     (Pl.cK (fI ls) (ls.length/3)=Pl.cK (fI ms) (ls.length/3)/\∃x y xv yv,Pl.dG (fI ls) (fI ms) (ls.length/3)=some (x,y)/\Kept w.heap.size w' xv (some x)/\Kept w.heap.size w' yv (some y)/\e= .returned (.tuple #[xv,yv,.nilIface])))))
theorem Rg(w:World)(hn:ls.length=n)(hm:ms.length=m)(uc:n<=1048576)(EN:m<=1048576)(jO:¬(n=m/\n≠0/\n%3=0)):
 bG 108 #[.slice A n aB,.slice B m fC] w (mR w ls ms):=by
 have Jm:mR w ls ms (.returned (.tuple #[.slice none 0 0,.slice none 0 0,QA 20])) w:=by refine⟨ak _ _,.inl ⟨λh=>jO ?_,rfl⟩⟩;rw[hn,hm]at h;exact⟨h.1,h.2.1,h.2.2.1⟩
 unfold QA at Jm;clear hn hm;by_cases h1:n=m
 ·by_cases h2:n=0
  ·subst h1 h2;have q1:(((0:Nat):Int) !=((0:Nat):Int))=false:=rfl;clear jO uc EN;go_enter Tryz.func108,Tryz.ntmps108;go_wp2_with fail;go_ret3;exact Jm
  ·have h3:n%3≠0:=λh=>jO ⟨h1,h2,h⟩;have q1:((n:Int) !=(m:Int))=false:=by rw[h1];simp
   have q2:((n:Int)==0)=false:=b9.2 zo;have q3:((n:Int)%3 !=0)=true:=by simp;omega
   have q4:((n:Int).tmod 3 !=0)=true:=by rw[oz zo];exact q3
   clear jO h1 h2 h3;go_enter Tryz.func108,Tryz.ntmps108;go_wp2_with fail;go_ret3;exact Jm
 ·have q1:((n:Int) !=(m:Int))=true:=by simp;omega
  clear jO h1;go_enter Tryz.func108,Tryz.ntmps108;go_wp2_with fail;go_ret3;exact Jm
theorem X8{ls:List (List UInt8)}(h:∀l∈ls,Pl.fq l≠none)(hk:k<ls.length):Pl.nz (Pl.ed (fI ls) k):=by
 obtain⟨l,hl⟩:∃l,ls[k]?=some l:=zS;cases ht:Pl.fq l with
 |none=>grind
 |some t=>rw[NH hl ht];exact((Pl.qK l t).1 ht).1
theorem Kept.QY{A:Option Addr}{l:List UInt8}{n aB:Nat}(h:aw W A l)(hl:l.length=n)(h0:0<n)(hc:n<=aB)(hm:n<=140737488351232)(fu:∀p,A=some p->lo<=p.block):Kept lo W (.slice A n aB) (some l):=by
 rcases h with rfl|⟨b,off,rfl,h⟩
 ·grind
 ·exact⟨b,off,n,aB,rfl,hl,hc,hm,zw,.inr ⟨b,off,rfl,h⟩⟩
theorem I3(T:List Pl.fh)(i:Nat):∀l∈Pl.fG T i,l.length<=5000:=by intro l hl;simp only[Pl.fG,cV,je,iU]at hl;rcases hl with rfl|rfl|rfl<;>simp[Pl.dK,Pl.entry,Pl.aG]
theorem zY{t:Pl.fh}(h:Pl.nz t):∀l∈Pl.eU t,l.length<=5000:=by intro l hl;unfold Pl.eU at hl;obtain⟨o,ho,rfl⟩:=iE.1 hl;exact EL (h.2.2 o ho)
theorem Vp{z:List UInt8×List UInt8}(h1:Pl.nE T i=Pl.nE U i)(h2:Pl.parts (Pl.cH (Pl.fG T i)) (Pl.cH (Pl.fG U i))=none)(h3:∀d',d'<d->Pl.kA T U (3*i+d')=none)(hd:d<3)
 (hz:Pl.kA T U (3*i+d)=some z):Pl.mB T U i=some z:=by
 unfold Pl.mB;rw[ah h1,h2]
 match d,hd with
 |0,_=>grind
 |1,_=>
  grind
 |2,_=>
  have e0:=h3 0 zo
  grind
theorem Dh(h1:Pl.nE T i=Pl.nE U i)(h2:Pl.parts (Pl.cH (Pl.fG T i)) (Pl.cH (Pl.fG U i))=none)(h3:∀d',d'<3->Pl.kA T U (3*i+d')=none):Pl.mB T U i=none:=by
 unfold Pl.mB;have e0:=h3 0 zo;have e1:=h3 1 zo;have e2:=h3 2 zo;rw[cI]at e0;rw[ah h1,h2]
 grind
theorem ld(P Q:List Pl.fh)(i:Nat):Pl.dG P Q (i+1)=match Pl.mB P Q i with
 |some x=>some x
 |none=>Pl.dG P Q i:=rfl
theorem aee(w:World)(hA:BR w (·<w.heap.size) A ls)(hB:BR w (·<w.heap.size) B ms)(hn:ls.length=n)(hm:ms.length=n)(uc:n<=1048576)(rX:n<=aB)(lC:n<=fC)(h0:n≠0)(h3:n%3=0):
 bG 108 #[.slice A n aB,.slice B n fC] w (mR w ls ms):=by
 have B1:=zi (FM n ls A aB w hA hn rX h3 uc);have q1:((n:Int) !=(n:Int))=false:=by simp
 have q2:((n:Int)==0)=false:=b9.2 zo;have q3:((n:Int)%3 !=0)=false:=by simp;omega
 have q4:((n:Int).tmod 3 !=0)=false:=by rw[oz zo];exact q3
 obtain⟨HB,HN,HM,H3⟩:=yx hB hn hm h3;clear hA hB hn hm h3;go_enter Tryz.func108,Tryz.ntmps108;go_wp2_with fail;refine B1.mono ?_;intro e w1 dj;have aI:Below w.heap.size w w1:=by rcases dj with h|⟨_,_,_,_,h⟩;exact h.2.2;exact h
 obtain⟨aqs,B2,fJ⟩:=kt aI.size (FM n ms B fC w1 ((HB.Ee aI (λ_ h=>h)).mono (λb (hb:b<w.heap.size)=>aK hb aI.size)) HM lC H3 uc) aI;have jO:∀w',Below w.heap.size w w'->((∃l∈ls,Pl.fq l=none)\/∃l∈ms,Pl.fq l=none)->mR w ls ms (.returned (.tuple #[.slice none 0 0,.slice none 0 0,QA 20])) w':=by
  intro w' hb h;refine⟨hb,.inl ⟨λh'=>?_,rfl⟩⟩;rcases h with⟨l,h1,h2⟩|⟨l,h1,h2⟩
  ·exact h'.2.2.2.1 l h1 h2
  ·exact h'.2.2.2.2 l h1 h2
 have akb:=zi jO;unfold QA at akb;clear aI jO;rcases dj with⟨hno,rfl,_⟩|⟨ahW,va,rfl,hoa,_⟩
 ·have Uc:=zi hno;clear hno;go_wp2_with fail;refine B2.mono ?_;intro e w2 iA;rcases iA with⟨_,rfl,bz⟩|⟨_,vb,rfl,_,bz⟩
  all_goals
   have eY:=zi (fJ.trans (bz.mono fJ.size));clear bz;go_wp2_with fail;go_ret3;exact akb _ eY (.inl Uc)
 ·have air:=zi ahW;obtain⟨Aa,ca,rfl,GJ,hka⟩:=hoa.bks;have HKA:=zi hka;clear ahW hoa hka;go_wp2_with fail;refine B2.mono ?_;intro e w2 iA;rcases iA with⟨hno,rfl,bz⟩|⟨ahZ,vb,rfl,hob,bz⟩
  ·obtain⟨eY,Uc⟩:=dz (fJ.trans (bz.mono fJ.size)) hno;clear bz hno;go_wp2_with fail;go_ret3;exact akb _ eY (.inr Uc)
  ·obtain⟨Ab,cb,rfl,zV,Kc⟩:=hob.bks;obtain⟨N,hN⟩:=ze (n/3);obtain⟨S,hS⟩:=ze w2.heap.size;rw[hN]at GJ zV HKA Kc|-
   rw[hS]at Kc;obtain⟨hkA,hkB,eY,ahJ⟩:=yx ((HKA.bQ bz).more (B':=S) (zA bz.size)) Kc (fJ.trans (bz.mono fJ.size)) ahZ;obtain⟨T,hT⟩:=ze (fI ls);obtain⟨U,hU⟩:=ze (fI ms);rw[hT]at hkA;rw[hU]at hkB;obtain⟨SW,HUU,HNN⟩:=kt hT hU hN;have hN1:1<=N:=zA H3.out;have hNn:N<=1048576:=zo;have YC:∀(w':World) (e':Ending),Below w.heap.size w w'->(((Pl.cK T N≠Pl.cK U N\/Pl.dG T U N=none)/\e'= .returned (.tuple #[.slice none 0 0,.slice none 0 0,QA 21]))\/(Pl.cK T N=Pl.cK U N/\∃x y xv yv,Pl.dG T U N=some (x,y)/\Kept w.heap.size w' xv (some x)/\Kept w.heap.size w' yv (some y)/\e'= .returned (.tuple #[xv,yv,.nilIface])))->mR w ls ms e' w':=by intro w' e' hb h;refine⟨hb,.inr ⟨by rw[HN.out,HM.out],by rw[HN.out];exact h0,by rw[HN.out];exact H3,air,ahJ,?_⟩⟩;rw[HN.out,HNN.out,SW.out,HUU.out];exact h
   have HG:=zi YC;unfold QA at HG;have anM:∀k,k<3*N->Pl.nz (Pl.ed T k):=λk hk=>by rw[<-SW.out];exact X8 air (zC HN.out HNN.out)
   have amy:∀k,k<3*N->Pl.nz (Pl.ed U k):=λk hk=>by rw[<-HUU.out];exact X8 ahJ (zC HM.out HNN.out)
   obtain⟨HOT,HOU⟩:=dz anM amy;obtain⟨M,hM⟩:∃M,N=M+1:=⟨N-1,zo⟩;subst hM;obtain⟨b1,o1,Ah1,ch1,Ae1,ce1,At1,ct1,rfl,F1⟩:=hkA.dm (show M<M+1 by omega);obtain⟨b2,o2,Ah2,ch2,Ae2,ce2,At2,ct2,rfl,F2⟩:=hkB.dm (show M<M+1 by omega);have c1:=F1.c0;have c2:=F2.c0;have HC:=zi (And.intro c1 c2);have ma:=pn Ah1 ch1 (Pl.nE T M) w2.drew F1.hd (by rw[Pl.nE,Pl.eZ];omega);rw[show(Pl.nE T M).length=13 from Pl.eZ _ _ _,show Pl.iZ (Pl.nE T M)=Pl.cK T (M+1)from rfl]at ma;unfold bM at ma;obtain⟨Sp,HF2⟩:=dz ma F2.hd;have vL:(M:Int)<(M:Int)+1:=zo;have qG:(0:Int)<=(M:Int):=zo;have HS0:=zi hS;clear hN hS hT hU ahZ hob Kc bz YC anM amy c1 c2 ma;have hhT:Pl.cK T (M+1)<4294967296:=mH (Pl.qp T _) zj;have hhU:Pl.cK U (M+1)<4294967296:=mH (Pl.qp U _) zj;have aiX:=λW=>DZ (Pl.cK T (M+1)) (Pl.cK U (M+1)) hhT hhU W;obtain⟨hd,TM⟩:=ze ((!decide (Pl.cK T (M+1)=Pl.cK U (M+1))));rw[TM]at aiX;unfold bM at aiX;have Qo:=zi TM;clear TM hhT hhU;go_wp2_with fail
   go_region_held3 (λW:World=>W.cell? ⟨b1,o1+M*3,none⟩=some (.slice Ah1 13 ch1)/\W.cell? ⟨b2,o2+M*3,none⟩=some (.slice Ah2 13 ch2)) (first|exact HC.out|exact S3.out|exact S4.out) (first
    |(go_at_call 129
      (with_reducible refine Sp.out.mono ?_)
      rintro e w3 ⟨rfl,bg⟩;have S3:=zi (And.intro (bW bg _ _ HC.out.1) (bW bg _ _ HC.out.2));have nX:=pn Ah2 ch2 (Pl.nE U M) w3 (HF2.out.bQ (cG bg)) (by rw[Pl.nE,Pl.eZ];omega);rw[show(Pl.nE U M).length=13 from Pl.eZ _ _ _,show Pl.iZ (Pl.nE U M)=Pl.cK U (M+1)from rfl]at nX;unfold bM at nX;obtain⟨sZ,eI⟩:=dz nX (cG bg);clear nX bg)
    |(go_at_call 129
      (with_reducible refine sZ.out.mono ?_)
      rintro e w4 ⟨rfl,cj⟩;obtain⟨S4,ib⟩:=dz (And.intro (bW cj _ _ S3.out.1) (bW cj _ _ S3.out.2)) (eI.out.trans (cj.mono eI.out.size));clear cj)
    |fail)
   have Nv:Hid (Below w.heap.size w w4):=eY.trans (ib.mono eY.size);cases hd with
   |true=>
    have hne:Pl.cK T (M+1)≠Pl.cK U (M+1):=by have:=Qo.out;simpa using this
    have TT:=zi hne;clear hne;go_wp2_with fail;go_ret3;exact HG _ _ Nv (.inl ⟨.inl TT,rfl⟩)
   |false=>
    have heq:Pl.cK T (M+1)=Pl.cK U (M+1):=by have:=Qo.out;simpa using this
    have HEQ:=zi heq;have uY:Hid (Below S w2 w4):=by rw[Hid,<-HS0.out];exact ib
    obtain⟨anb,alQ⟩:=dz (hkA.bQ uY) (hkB.bQ uY);have HSW:Hid (w.heap.size<=S):=by rw[Hid,<-HS0.out];exact eY.size
    clear heq;go_wp2_with fail
    go_loopw [13] (λiv W=>∃r:Nat,r<=M+1/\iv= .int .i64 ((r:Int)-1)/\Hid (Pl.dG T U (M+1)=Pl.dG T U r)/\Hid (Below S w4 W)) (λiv _=>(intOf iv+1).toNat)
    case atStart=>exact⟨M+1,ai _,by rw[show(((M+1:Nat)):Int)-1=(M:Int) by omega],rfl,ak _ _⟩
    case round=>
     obtain⟨r,hr,rfl,HCD,HBR⟩:=hrel;by_cases Y0:r=0
     ·subst Y0;have z1:¬(0:Int)<=((0:Nat):Int)-1:=zo;go_wp2_with fail;go_ret3;exact HG _ _ (Nv.trans (HBR.mono HSW)) (.inl ⟨.inr (by rw[HCD.out];rfl),rfl⟩)
     ·obtain⟨i,hi⟩:∃i,r=i+1:=⟨r-1,zo⟩;subst hi;rw[show(((i+1:Nat)):Int)-1=(i:Int) by omega];obtain⟨b1',o1',Ah3,ch3,Ae3,ce3,At3,ct3,e1',G1⟩:=(anb.bQ HBR).dm (show i<M+1 by omega);obtain⟨b2',o2',Ah4,ch4,Ae4,ce4,At4,ct4,e2',G2⟩:=(alQ.bQ HBR).dm (show i<M+1 by omega);cases e1';cases e2';obtain⟨K0,HG2,Eu⟩:=kt G1 G2 (And.intro G1.c0 G2.c0);have hq:=xj Ah3 Ah4 (Pl.nE T i) (Pl.nE U i) ch3 ch4 wr.drew G1.hd G2.hd;rw[show(Pl.nE T i).length=13 from Pl.eZ _ _ _,show(Pl.nE U i).length=13 from Pl.eZ _ _ _]at hq;obtain⟨he,hhe⟩:=ze ((Pl.nE T i==Pl.nE U i));rw[hhe]at hq;obtain⟨HQ,HHE⟩:=dz hq hhe;have z1:(0:Int)<=(i:Int):=zo;have z2:(i:Int)<(M:Int)+1:=zo;clear G1 G2 hq hhe Y0;go_wp2_with fail
      go_region_held3 (λW:World=>W.cell? ⟨b1,o1+i*3,none⟩=some (.slice Ah3 13 ch3)/\W.cell? ⟨b2,o2+i*3,none⟩=some (.slice Ah4 13 ch4)) (exact Eu.out) (first
       |(go_at_call 172
         (with_reducible refine HQ.out.mono ?_)
         rintro e w' ⟨rfl,rfl⟩)
       |fail)
      cases he with
      |false=>
       have hne:Pl.mB T U i=some (Pl.nE T i,Pl.nE U i):=by have:=HHE.out;unfold Pl.mB;rw[aj (by simpa using this)]
       have TT:Hid (Pl.dG T U (M+1)=some (Pl.nE T i,Pl.nE U i)):=by rw[Hid,HCD.out,ld,hne]
       clear hne;go_wp2_with fail
       go_region_held3 (λW:World=>W.cell? ⟨b1,o1+i*3,none⟩=some (.slice Ah3 13 ch3)/\W.cell? ⟨b2,o2+i*3,none⟩=some (.slice Ah4 13 ch4)) (exact Eu) (fail)
       go_wp2_with fail;go_ret3;refine HG _ _ ((Nv.trans (HBR.mono HSW)).drew.drew) (.inr ⟨HEQ,_,_,_,_,TT,Kept.QY K0.hd (Pl.eZ _ _ _) zo K0.h13 zo (λp hp=>K0.fu p hp),Kept.QY HG2.hd (Pl.eZ _ _ _) zo HG2.h13 zo (λp hp=>ao aqs (HG2.fu p hp)),rfl⟩)
      |true=>
       have apm:Pl.nE T i=Pl.nE U i:=by have:=HHE.out;simpa using this
       have HEH:=zi apm;obtain⟨be1,oe1,rfl⟩:=K0.fG.bb.addr (by rw[Pl.sE];omega);obtain⟨be2,oe2,rfl⟩:=HG2.fG.bb.addr (by rw[Pl.sE];omega);have hSr:S<=wr.heap.size:=by rw[<-HS0.out];exact ao uY.size HBR.size
       have WX:ag (λ_=>False) wr wr.drew.drew:=((ag.refl _ wr).drew).drew;obtain⟨HAP,HCF⟩:=dz (MG be1 oe1 ce3 be2 oe2 ce4 3 3 (Pl.fG T i) (Pl.fG U i) wr.drew.drew ((K0.fG.only WX (λ_ _ h=>h)).mono (λb (hb:b<S)=>aK hb hSr)) ((HG2.fG.only WX (λ_ _ h=>h)).mono (λb (hb:b<S)=>aK hb hSr)) rfl rfl zo zo zo K0.he HG2.he (I3 T i) (I3 U i)) (And.intro K0.c1 HG2.c1);clear apm WX;go_wp2_with fail
       go_region_held3 (λW:World=>W.cell? ⟨b1,o1+i*3+1,none⟩=some (.slice (some ⟨be1,oe1,none⟩) 3 ce3)/\W.cell? ⟨b2,o2+i*3+1,none⟩=some (.slice (some ⟨be2,oe2,none⟩) 3 ce4)) (first|exact HCF.out|exact S5.out) (first
        |(go_at_call 174
          (with_reducible refine HAP.out.mono ?_)
          rintro e w5 ⟨xv,yv,rfl,hx,hy,nB⟩;obtain⟨HX,HY⟩:=dz hx hy;have abm:Below wr.heap.size wr w5:=cG (cG nB);obtain⟨S5,C5⟩:=dz (And.intro (bW abm _ _ HCF.out.1) (bW abm _ _ HCF.out.2)) (And.intro (bW abm _ _ K0.out.c2) (bW abm _ _ HG2.out.c2));have zv:Hid (Below S w4 w5):=HBR.out.trans (abm.mono hSr);clear hx hy nB abm)
        |fail)
       obtain⟨o,ho⟩:=ze (Pl.parts (Pl.cH (Pl.fG T i)) (Pl.cH (Pl.fG U i)));have HO:=zi ho;rw[ho]at HX HY|-
       clear ho;cases o with
       |some z=>
        have TT:Hid (Pl.dG T U (M+1)=some (z.1,z.2)):=by rw[Hid,HCD.out,ld];unfold Pl.mB;rw[ah HEH.out,HO.out]
        go_wp2_with fail;go_ret3;exact HG _ _ (Nv.trans (zv.mono HSW)) (.inr ⟨HEQ,_,_,_,_,TT,HX.low (ao Nv.size HBR.size),HY.low (ao Nv.size HBR.size),rfl⟩)
       |none=>
        rw[show(none:Option (List UInt8×List UInt8)).isSome=false from rfl];have cc1:=C5.1;go_wp2_with fail
        go_loopw [122] (λiv W=>∃d:Nat,d<=3/\iv= .int .i64 (d:Int)/\Hid (∀d',d'<d->Pl.kA T U (3*i+d')=none)/\Hid (Below S w4 W)) (λiv _=>3-(intOf iv).toNat)
        case atStart=>exact⟨0,zo,rfl,λd' h=>by omega,zv⟩
        case round=>
         obtain⟨d,hd,rfl,HTP,xG⟩:=hrel;clear cc1;by_cases Pt:d<3
         ·obtain⟨b1',o1',Ah5,ch5,Ae5,ce5,At5,ct5,e1',G1⟩:=(anb.bQ xG).dm (show i<M+1 by omega);obtain⟨b2',o2',Ah6,ch6,Ae6,ce6,At6,ct6,e2',G2⟩:=(alQ.bQ xG).dm (show i<M+1 by omega);cases e1';cases e2';obtain⟨bt1,ot1,v10,v11,rfl,t10,t11,Px⟩:=G1.tx Pt;obtain⟨bt2,ot2,v20,v21,rfl,t20,t21,I5⟩:=G2.tx Pt;have vL:=HOT.out (3*i+d) zo;have qG:=HOU.out (3*i+d) zo;obtain⟨tt,XJ⟩:=ze (Pl.ed T (3*i+d));obtain⟨uu,huu⟩:=ze (Pl.ed U (3*i+d));rw[XJ]at Px vL;rw[huu]at I5 qG;have hSr:S<=wr.heap.size:=by rw[<-HS0.out];exact ao uY.size xG.size
          have arO:=zi (yF (·<S) [v10,v11] tt wr.drew (Px.only (ag.refl (λ_=>False) wr).drew (λ_ _ h=>h)) (λb (hb:b<S)=>aK hb hSr) vL.2.2 (zA vL.2.1));have HPO:Hid (Pl.kA T U (3*i+d)=Pl.parts (Pl.cH (Pl.eU tt)) (Pl.cH (Pl.eU uu))):=by rw[Hid,<-XJ,<-huu];rfl
          have HC6:=zi (show _/\_/\_/\_/\_/\_ from⟨G1.c2,G2.c2,t10,t11,t20,t21⟩);obtain⟨p1,NW⟩:=ze (ot1+d*2);have y1:(d:Int)<3:=zo;have y2:(0:Int)<=(d:Int):=zo;obtain⟨HX1,HX2,CQ⟩:=kt vL qG I5;clear G1 G2 t10 t11 t20 t21 Px I5 vL qG XJ huu NW;go_wp2_with fail
          go_region_held3 (λW:World=>W.cell? ⟨b1,o1+i*3+2,none⟩=some (.slice (some ⟨bt1,ot1,none⟩) 3 ct5)/\W.cell? ⟨b2,o2+i*3+2,none⟩=some (.slice (some ⟨bt2,ot2,none⟩) 3 ct6)/\W.cell? ⟨bt1,ot1+d*2,none⟩=some v10/\W.cell? ⟨bt1,ot1+d*2+1,none⟩=some v11/\W.cell? ⟨bt2,ot2+d*2,none⟩=some v20/\W.cell? ⟨bt2,ot2+d*2+1,none⟩=some v21) (first|exact HC6.out|exact S6.out|exact S7.out|exact S8.out) (first
           |(go_at_call 130
             (with_reducible refine arO.out.mono ?_)
             rintro e w6 ⟨va,rfl,o6,nW⟩;have bb6:Below wr.heap.size wr w6:=cG nW;obtain⟨S6,O6,B6,aqX⟩:=yx (show _/\_/\_/\_/\_/\_ from⟨bW bb6 _ _ HC6.out.1,bW bb6 _ _ HC6.out.2.1,bW bb6 _ _ HC6.out.2.2.1,bW bb6 _ _ HC6.out.2.2.2.1,bW bb6 _ _ HC6.out.2.2.2.2.1,bW bb6 _ _ HC6.out.2.2.2.2.2⟩) o6 bb6 (yF (·<S) [v20,v21] uu w6 (CQ.out.only (ag.ae bb6 (λ_=>False)) (λ_ _ h=>h)) (λb (hb:b<S)=>aK hb (ao hSr bb6.size)) HX2.out.2.2 (zA HX2.out.2.1));clear nW o6 bb6)
           |(go_at_call 130
             (with_reducible refine aqX.out.mono ?_)
             rintro e w7 ⟨vb,rfl,o7,bb7⟩;have S7:=zi (show _/\_/\_/\_/\_/\_ from⟨bW bb7 _ _ S6.out.1,bW bb7 _ _ S6.out.2.1,bW bb7 _ _ S6.out.2.2.1,bW bb7 _ _ S6.out.2.2.2.1,bW bb7 _ _ S6.out.2.2.2.2.1,bW bb7 _ _ S6.out.2.2.2.2.2⟩);have o6':BL w7 _ va _:=O6.out.aa um.fr bb7;obtain⟨Aa6,ca6,hva,akT,aiK⟩:=o6'.br;obtain⟨Ab7,cb7,hvb,aiQ,ajx⟩:=o7.br;obtain⟨ba6,oa6,rfl⟩:=aiK.bb.addr (by have:=HX1.out.2.1;rw[eT];omega);obtain⟨apA,ob7,rfl⟩:=ajx.bb.addr (by have:=HX2.out.2.1;rw[eT];omega);rw[eT]at hva akT hvb aiQ;obtain⟨HAP,B7⟩:=dz (MG ba6 oa6 ca6 apA ob7 cb7 tt.ops.length uu.ops.length (Pl.eU tt) (Pl.eU uu) w7 (aiK.mono (λb hb=>hb.2)) (ajx.mono (λb hb=>hb.2)) (eT ..) (eT ..) HX1.out.2.1.1 HX1.out.2.1.2 HX2.out.2.1.2 akT aiQ (zY HX1.out) (zY HX2.out)) (B6.out.trans (bb7.mono B6.out.size));subst hva hvb;clear o6' o7 bb7 akT aiQ aiK ajx)
           |(go_at_call 174
             (with_reducible refine HAP.out.mono ?_)
             rintro e w8 ⟨xv8,yv8,rfl,hx8,hy8,bb8⟩;obtain⟨S8,HX8,HY8⟩:=kt (show _/\_/\_/\_/\_/\_ from⟨bW bb8 _ _ S7.out.1,bW bb8 _ _ S7.out.2.1,bW bb8 _ _ S7.out.2.2.1,bW bb8 _ _ S7.out.2.2.2.1,bW bb8 _ _ S7.out.2.2.2.2.1,bW bb8 _ _ S7.out.2.2.2.2.2⟩) hx8 hy8;have HB8:Hid (Below S w4 w8):=xG.out.trans ((B7.out.trans (bb8.mono B7.out.size)).mono hSr);clear hx8 hy8 bb8)
           |fail)
          obtain⟨o,ho⟩:=ze (Pl.parts (Pl.cH (Pl.eU tt)) (Pl.cH (Pl.eU uu)));rw[ho]at HX8 HY8 HPO|-
          clear ho;cases o with
          |some z=>
           have TT:Hid (Pl.dG T U (M+1)=some (z.1,z.2)):=by rw[Hid,HCD.out,ld,Vp HEH.out HO.out HTP.out Pt HPO.out]
           go_wp2_with fail;go_ret3;exact HG _ _ (Nv.trans (HB8.mono HSW)) (.inr ⟨HEQ,_,_,_,_,TT,HX8.low (ao Nv.size (ao xG.size B7.size)),HY8.low (ao Nv.size (ao xG.size B7.size)),rfl⟩)
          |none=>
           have akQ:Hid (∀d',d'<d+1->Pl.kA T U (3*i+d')=none):=λd' h'=>by
            by_cases e:d'<d
            ·exact HTP d' e
            ·obtain rfl:d'=d:=zo;exact HPO
           go_wp2_with fail;exact⟨⟨d+1,zo,by go_num,akQ,HB8⟩,by simp[intOf];omega⟩
         ·obtain rfl:d=3:=zo;have aqC:Hid (Pl.dG T U (M+1)=Pl.dG T U i):=by rw[Hid,HCD.out,ld,Dh HEH.out HO.out HTP.out]
          go_wp2_with fail;exact⟨⟨i,zo,by go_num,aqC,xG⟩,by simp[intOf]⟩
theorem Zi(w:World)(hA:BR w (·<w.heap.size) A ls)(hB:BR w (·<w.heap.size) B ms)(hn:ls.length=n)(hm:ms.length=m)(uc:n<=1048576)(EN:m<=1048576)(rX:n<=aB)(lC:m<=fC):
 bG 108 #[.slice A n aB,.slice B m fC] w (mR w ls ms):=by
 by_cases h:n=m/\n≠0/\n%3=0
 ·obtain⟨rfl,h0,h3⟩:=h;exact aee n ls ms A B aB fC w hA hB hn hm uc rX lC h0 h3
 ·exact Rg n m ls ms A B aB fC w hn hm uc EN h
def Q6:Prop:=ls.length=ms.length/\ls.length≠0/\ls.length%3=0/\(∀l∈ls,Pl.fq l≠none)/\∀l∈ms,Pl.fq l≠none
def Gd(lo:Nat)(W:World)(ls ms:List (List UInt8))(av bv:Value)(k:Nat):Prop:=
 (¬Q6 ls ms/\av= .slice none 0 0/\bv= .slice none 0 0/\k=20)\/
 (Q6 ls ms/\(((Pl.cK (fI ls) (ls.length/3)≠Pl.cK (fI ms) (ls.length/3)\/Pl.dG (fI ls) (fI ms) (ls.length/3)=none)/\av= .slice none 0 0/\bv= .slice none 0 0/\k=21)\/
   (Pl.cK (fI ls) (ls.length/3)=Pl.cK (fI ms) (ls.length/3)/\∃x y,Pl.dG (fI ls) (fI ms) (ls.length/3)=some (x,y)/\Kept lo W av (some x)/\Kept lo W bv (some y)/\k=0)))
theorem Gd.bQ{W':World}{ls ms:List (List UInt8)}(h:Gd lo W ls ms av bv k)(hk:∀b off l,lo<=b->aw W (some ⟨b,off,none⟩) l->aw W' (some ⟨b,off,none⟩) l):Gd lo W' ls ms av bv k:=by
 rcases h with h|⟨h0,h|⟨h1,x,y,h2,h3,h4,h5⟩⟩
 ·exact .inl h
 ·exact .inr ⟨h0,.inl h⟩
 ·refine .inr ⟨h0,.inr ⟨h1,x,y,h2,?_,?_,h5⟩⟩
  ·obtain⟨b,off,n,aB,g1,g2,g3,g4,g5,g6⟩:=h3;exact⟨b,off,n,aB,g1,g2,g3,g4,g5,hk b off _ g5 g6⟩
  ·obtain⟨b,off,n,aB,g1,g2,g3,g4,g5,g6⟩:=h4;exact⟨b,off,n,aB,g1,g2,g3,g4,g5,hk b off _ g5 g6⟩
theorem Gd.ale{ls ms:List (List UInt8)}(h:Gd lo W ls ms av bv k):(∃A n c,av= .slice A n c)/\∃A n c,bv= .slice A n c:=by
 rcases h with⟨_,h1,h2,_⟩|⟨h0,⟨_,h1,h2,_⟩|⟨h1,x,y,h2,⟨b,off,n,aB,g1,_⟩,⟨b',Lb,n',cap',g2,_⟩,h5⟩⟩
 ·grind
 ·grind
 grind
def Tc:Prop:=
 ∃av bv ev k,e= .returned (.tuple #[av,bv,ev])/\yc w' ev k ⟨#[]⟩/\k<=21/\Gd w.heap.size w' ls ms av bv k/\Below w.heap.size w w'
theorem mR.day{w w':World}{ls ms:List (List UInt8)}{e:Ending}(h:mR w ls ms e w'):Tc w ls ms e w':=by
 obtain⟨hb,h⟩:=h;rcases h with⟨h1,rfl⟩|⟨h1,h2,h3,h4,h5,h|⟨h6,x,y,xv,yv,h7,h8,h9,rfl⟩⟩
 ·exact⟨_,_,_,20,rfl,yc.kind w' 20,zo,.inl ⟨h1,rfl,rfl,rfl⟩,hb⟩
 ·obtain⟨h6,rfl⟩:=h;exact⟨_,_,_,21,rfl,yc.kind w' 21,zo,.inr ⟨⟨h1,h2,h3,h4,h5⟩,.inl zw⟩,hb⟩
 ·exact⟨_,_,_,0,rfl,yc.nil w',zo,.inr ⟨⟨h1,h2,h3,h4,h5⟩,.inr zw⟩,hb⟩
theorem Nr(w:World)(hA:BR w (·<w.heap.size) A ls)(hB:BR w (·<w.heap.size) B ms)(hn:ls.length=n)(hm:ms.length=m)(uc:n<=1048576)(EN:m<=1048576)(rX:n<=aB)(lC:m<=fC):
 bG 57 #[.slice A n aB,.slice B m fC] w (Tc w ls ms):=by
 have HC:=zi (Zi n m ls ms A B aB fC w hA hB hn hm uc EN rX lC);clear hA hB hn hm;go_enter Tryz.func57,Tryz.ntmps57;go_wp2_with fail;refine HC.mono ?_;intro e w1 h;obtain⟨av,bv,ev,k,rfl,h1,h2,h3,h4⟩:=h.day;have H:=zi (sS h1 h2 h3 h4);clear h h1 h2 h3 h4;go_wp2_with fail;go_ret3;exact⟨av,bv,ev,k,rfl,H⟩
theorem Kg{fn:Func}{t s u:Tmp}{tmps:Array Value}{w:World}{g:Nat}{a b x y z:Value}(h:fn.results= #[.tmp t,.tmp s,.cell u 32])(hu:tmps.getD u undef= .pointer (some ⟨g,0,none⟩))(ht:tmps.getD t undef=a)(hs:tmps.getD s undef=b)(hB:ay w g 32 [x,y,z]):
 (results fn tmps).run Tryz.prog w= .ok (.tuple #[a,b,.agg #[x,y,z]]) w:=by
 have c0:=hB.cell 0;have c1:=hB.cell 1;have c2:=hB.cell 2;simp only[aL,au]at c0 c1 c2;simp only[fF]at hu ht hs;simp[results,h,ht,hs,hu,go_sem,c0,c1,c2,asAddr]
def Jr:Prop:=
 ∃av bv k,e= .returned (.tuple #[av,bv,Az (k:Nat) ⟨#[]⟩])/\Gd w.heap.size w' ls ms av bv k/\Below w.heap.size w w'
theorem xq(w:World)(hG:GE w)(hA:BR w (·<w.heap.size) A ls)(hB:BR w (·<w.heap.size) B ms)(hn:ls.length=n)(hm:ms.length=m)(uc:n<=1048576)(EN:m<=1048576)(rX:n<=aB)(lC:m<=fC):
 bG 24 #[.slice A n aB,.slice B m fC] w (Jr w ls ms):=by
 obtain⟨g6,w0,Ai,Lt,pL,B0⟩:=zE w 32 [.int .i64 0,.string ⟨#[]⟩,.bool false];have Fl:w0.heap.size=w.heap.size+1:=by rw[<-Lt];simp
 obtain⟨HC,HG⟩:=dz (Nr n m ls ms A B aB fC w0 ((hA.Ee pL (λ_ h=>h)).mono (λb (hb:b<w.heap.size)=>by show b<w0.heap.size;omega)) ((hB.Ee pL (λ_ h=>h)).mono (λb (hb:b<w.heap.size)=>by show b<w0.heap.size;omega)) hn hm uc EN rX lC) hG;clear hA hB hn hm;go_enter Tryz.func24,Tryz.ntmps24;go_wp2_with fail;refine HC.mono ?_;rintro e w1 ⟨av,bv,ev,k,rfl,h1,h2,h3,h4⟩;obtain⟨HT,HR,fJ⟩:=kt (mf ev k ⟨#[]⟩ w1 (HG.aa (pL.trans (h4.mono pL.size))) h1 h2) h3 h4;clear h1 h2 h3 h4;go_wp2_with fail;refine HT.mono ?_;rintro e w2 ⟨rfl,bz⟩;have eC:=fJ.trans (bz.mono fJ.size);have B2:=B0.aa eC B0.lt;obtain⟨c0,c1,c2,f0,f1,f2⟩:=dD B2;have CQ:=zi (HR.bQ (W':=w2) (λb off l _ h=>h.bQ bz));obtain⟨w3,fX⟩:=ze (((w2.setCell ⟨g6,0,none⟩ (.int .i64 (k:Int))).setCell ⟨g6,1,none⟩ (.string ⟨#[]⟩)).setCell ⟨g6,2,none⟩ (.bool true));have eI:=zi (show ay w3 g6 32 [.int .i64 (k:Int),.string ⟨#[]⟩,.bool true] by rw[<-fX];exact((B2.bw 0 _).bw 1 _).bw 2 _);have rS:Hid (ag (·=g6) w2 w3):=by rw[Hid,<-fX];exact((((ag.refl (·=g6) w2).zs 0).zs 1).zs 2)
 have eY:=zi (pL.trans (eC.mono pL.size));obtain⟨⟨A1,n1,c1',rfl⟩,A2,n2,c2',rfl⟩:=HR.ale;clear bz eC B2;go_wp2_with fail;refine bH (Kg rfl rfl rfl rfl eI) rfl ⟨_,_,k,rfl,?_,?_⟩
 ·have h9:=CQ.bQ (W':=w3) (λb off l hb h=>rS.bytes h (λp hp e=>by cases hp;have e':b=g6:=e;have:=B0.lt;omega));rcases h9 with h|⟨h0,h|⟨h1,x,y,h2,h3,h4,h5⟩⟩
  ·exact .inl h
  ·exact .inr ⟨h0,.inl h⟩
  ·exact .inr ⟨h0,.inr ⟨h1,x,y,h2,h3.low zo,h4.low zo,h5⟩⟩
 ·exact eY.trans (rS.cW eY.size (λk hk e=>by omega))
end Go.Proofs.YtbhpofdafhahgaaGreatDoor
namespace Go.Proofs.YtbhpofdafhahgaaGreatDoor
variable [Inhabited eH]
namespace Pl
variable (i:Nat) (w:List UInt8) (f:Nat->List UInt8) (n:Nat)
def tM:List UInt8:=[108,111,103]
def E2:List Cl:=[⟨[107,101,121],1⟩,⟨[119,111,114,100],2⟩]
def Ki:jb:=⟨1,tM,E2,[]⟩
def JI:List Vl:=[⟨1,i,[]⟩,⟨2,0,w⟩]
def Fs:jb:=⟨2,tM,[],JI i w⟩
def tx0:fh:=⟨1,[Ki]⟩
def KQ:fh:=⟨i,[Fs i w]⟩
def om:List fh:=tx0::(List.range n).map (λi=>KQ i (f i))
theorem Jo:om f (n+1)=om f n++ [KQ n (f n)]:=by unfold om;rw[jK,gH,eu];rfl
theorem ir:(om f n).length=n+1:=by simp[om]
theorem AW{n k:Nat}(h:k<n):ed (om f n) (k+1)=KQ k (f k):=by
 unfold ed om
 grind
theorem aaz:jx E2:=zj
theorem Sw:iy tM:=zj
theorem afb:p8 Ki:=⟨Sw,.inl ⟨rfl,aaz,rfl⟩⟩
theorem Fe:nz tx0:=⟨zj,zj,λo ho=>by rw[dU.1 ho];exact afb⟩
theorem Xw{i:Nat}{w:List UInt8}(hi:i<1000)(hw:w.length<=16):∀v∈JI i w,Gq v:=λv hv=>by
 have h8:(1000:Nat)<256^8:=zj;unfold JI at hv;rcases cV.1 hv with rfl|hv
 ·exact .inl ⟨rfl,rfl,by show i<256^8;omega⟩
 ·rw[dU.1 hv];exact .inr ⟨rfl,rfl,hw⟩
theorem acX{i:Nat}{w:List UInt8}(hi:i<1000)(hw:w.length<=16):p8 (Fs i w):=⟨Sw,.inr (.inl ⟨.inl rfl,rfl,⟨by show 1<=2/\2<=4;decide,Xw hi hw⟩⟩)⟩
theorem E1{i:Nat}{w:List UInt8}(hi:i<1000)(hw:w.length<=16):nz (KQ i w):=
 ⟨by have h8:(1000:Nat)<256^8:=zj;show i<256^8;omega,by show 1<=1/\1<=16;decide,λo ho=>by rw[dU.1 ho];exact acX hi hw⟩
theorem ali{f:Nat->List UInt8}{n:Nat}(hn:n<=1000)(hf:∀i,(f i).length<=16):∀x∈om f n,nz x:=λx hx=>by
 unfold om at hx;rcases cV.1 hx with rfl|hx
 ·exact Fe
 ·obtain⟨i,hi,rfl⟩:=iE.1 hx;exact E1 zw (hf i)
theorem abA:(fp (Fs i w)).length=17+w.length:=by unfold fp Fs JI l6 nI short tM;simp[aG];omega
theorem RM:(bj (KQ i w)).length=30+w.length:=by have:=abA i w;unfold bj ky KQ;simp only[ax,bE,uD,aG,dR,uN,this];omega
theorem Js:(bj tx0).length=30:=by unfold bj ky;simp only[ax,bE,aG];rfl
theorem Rs{b:Bs}{x:fh}{k:Key}(hs:qu b.ps)(hk:Lh k):dI k (aup b x).ps=dI k b.ps:=by
 have hP:∀n i,k≠kP n i:=λn i e=>by
  obtain⟨c,r,rfl,h1,h2,h3,h4⟩:=hk;unfold kP aum at e
  grind
 have hN:k≠kN:=λe=>by
  obtain⟨c,r,rfl,h1,h2,h3,h4⟩:=hk;unfold kN at e
  grind
 have s0:=Fg (b.count+1) 100 0 (bj x) b.ps hs;have g0:=yD (hP (b.count+1)) 100 0 (bj x) b.ps hs;have g1:dI k (dN (kE (b.count+1)) (dK (b.count+1) x) (auk (b.count+1) 100 0 (bj x) b.ps))=dI k b.ps:=by rw[fQ s0,aj (show k≠kE (b.count+1)from(hk.ne _ []).1),g0]
 show dI k (auv (b.count+1) x b.ps)=_;unfold auv;dsimp only;split
 ·rw[fQ (jA (jA s0)),aj hN,fQ (jA s0),aj (show k≠kB ((b.count+1)/3)from(hk.ne _ []).2),g1]
 ·rw[fQ (jA s0),aj hN,g1]
theorem RZ(b:Bs)(x:fh):(aup b x).ps.length<=b.ps.length+((bj x).length+99)/100+3:=ZQ _ _ _
theorem X7(nm:List UInt8)(v:Vl):Lh (kR nm v):=DM zo _ _
theorem ajA{nm:List UInt8}{a b:Nat}(ha:a<1000)(hb:b<1000)(h:kR nm ⟨1,a,[]⟩=kR nm ⟨1,b,[]⟩):a=b:=by
 unfold kR keyOf at h;injection h with _ h;have h:=List.append_cancel_left h;unfold auA at h;rw[ah rfl,ah rfl]at h;have h8:(9223372036854775808+1000:Nat)<256^8:=zj;have h1:=kq 8 (a+9223372036854775808) zo;have h2:=kq 8 (b+9223372036854775808) zo
 grind
def tbL:Tb:=⟨tM,E2,0⟩
end Pl
variable {aA n:Nat} {f:Nat->List UInt8} {b:Pl.Bs}
theorem kv.snoc{aA:Nat}{x:Pl.fh}:∀{xs:List Pl.fh} {b:Pl.Bs},kv aA b xs->Pl.nz x->ux aA (fH b xs) x.ops->(Pl.nK (fH b xs) x.ops).ps.length+20<=aA->kv aA b (xs++ [x])
 | [],_,_,h1,h2,h3=>⟨h1,h2,h3,trivial⟩
 |a::xs,b,h,h1,h2,h3=>⟨h.1,h.2.1,h.2.2.1,kv.snoc (xs:=xs) (b:=CZ b a) h.2.2.2 h1 h2 h3⟩
theorem Ql(b:Pl.Bs)(xs:List Pl.fh)(x:Pl.fh):fH b (xs++ [x])=CZ (fH b xs) x:=by unfold fH;simp
structure Un(aA:Nat)(f:Nat->List UInt8)(n:Nat)(b:Pl.Bs):Prop where
 run:b=fH E0 (Pl.om f n)
 rM:Pl.Good (Pl.om f n) b
 tb:b.tb=some Pl.tbL
 len:b.ps.length<=10*(n+1)
 free:∀k,n<=k->k<1000->Pl.dI (Pl.kR Pl.tM ⟨1,k,[]⟩) b.ps=none
 fine:kv aA E0 (Pl.om f n)
theorem SN(h:100<=aA):pW aA E0 Pl.Ki:=⟨Pl.afb,by show 0+20<=aA;omega,.inl ⟨rfl,rfl⟩⟩
theorem Un.first(f:Nat->List UInt8)(h:100<=aA):Un aA f 0 (Pl.aup (Pl.aul E0 Pl.Ki).2 Pl.tx0):=by
 have hg:Pl.Good [] (Pl.aul E0 Pl.Ki).2:=Pl.Good.op Pl.Hu _;have hl:=Pl.RZ (Pl.aul E0 Pl.Ki).2 Pl.tx0;rw[Pl.Js]at hl;refine⟨rfl,hg.Xr Pl.tx0 (by rw[Pl.Js];decide) zj,rfl,?_,λk _ hk=>?_,⟨Pl.Fe,⟨SN h,trivial⟩,?_,trivial⟩⟩
 ·have:(Pl.aul E0 Pl.Ki).2.ps.length=1:=rfl;omega
 ·rw[Pl.Rs hg.uo (Pl.X7 _ _)];show Pl.dI _ (Pl.dN (Pl.kC Pl.tM) _ [])=none;rw[Pl.fQ List.Pairwise.nil,aj]
  ·rfl
  ·intro e;unfold Pl.kR Pl.kC Pl.keyOf at e
   grind
 ·show 1+20<=aA;omega
theorem Sc(h:Un aA f n b)(hn:n<1000)(hr:10*(n+1)+20<=aA)(hf:(f n).length<=16):pW aA b (Pl.Fs n (f n)):=by
 refine⟨Pl.acX hn hf,by have:=h.len;omega,.inr ⟨rfl,Pl.tbL,n,[⟨2,0,f n⟩],h.tb,rfl,⟨rfl,λk v c hv hc=>?_⟩,rfl,zo,h.free n zo hn⟩⟩;have gP:=Pl.Xw hn hf v (bO hv);refine⟨?_,gP⟩
 match k,hv,hc with
 |0,hv,hc=>injection hv with hv;injection hc with hc;grind
 |1,hv,hc=>injection hv with hv;injection hc with hc;grind
theorem Un.Fs{aA n:Nat}{f:Nat->List UInt8}{b:Pl.Bs}(h:Un aA f n b)(hn:n<1000):Pl.aul b (Pl.Fs n (f n))=(0,{b with ps:=Pl.dN (Pl.kR Pl.tM ⟨1,n,[]⟩) (Pl.auq (b.count+1) (Pl.JI n (f n))) b.ps}):=by unfold Pl.aul;rw[h.tb];dsimp only;rw[show Pl.dI (Pl.aus Pl.tbL (Pl.Fs n (f n))) b.ps=none from h.free n zo hn];rfl
theorem Un.next(h:Un aA f n b)(hn:n<999)(hr:10*(n+1)+40<=aA)(hf:(f n).length<=16):Un aA f (n+1) (Pl.aup (Pl.aul b (Pl.Fs n (f n))).2 (Pl.KQ n (f n))):=by
 have ho:=Sc h zo zo hf;have e:=h.Fs zo;have hg:Pl.Good (Pl.om f n) (Pl.aul b (Pl.Fs n (f n))).2:=h.rM.op _;have hp:=Pl.RM n (f n);have hl:=Pl.RZ (Pl.aul b (Pl.Fs n (f n))).2 (Pl.KQ n (f n));have hlp:=Pl.jW (Pl.kR Pl.tM ⟨1,n,[]⟩) (Pl.auq (b.count+1) (Pl.JI n (f n))) b.ps;have bU:=h.len;have BJ:(Pl.aul b (Pl.Fs n (f n))).2.ps.length<=b.ps.length+1:=zw;have hrun:Pl.aup (Pl.aul b (Pl.Fs n (f n))).2 (Pl.KQ n (f n))=CZ b (Pl.KQ n (f n)):=rfl;have kI:(Pl.aul b (Pl.Fs n (f n))).2.tb=some Pl.tbL:=by rw[e];exact h.tb
 refine⟨?_,?_,kI,zo,λk h1 h2=>?_,?_⟩
 ·rw[hrun,Pl.Jo,Ql,<-h.run]
 ·rw[Pl.Jo];exact hg.Xr _ zo (by rw[Pl.ir];omega)
 ·rw[Pl.Rs hg.uo (Pl.X7 _ _),e];show Pl.dI _ (Pl.dN _ _ b.ps)=none;rw[Pl.fQ h.rM.uo,aj (λe=>by have:=Pl.ajA h2 zo e;omega)];exact h.free k zo h2
 ·rw[Pl.Jo];refine kv.snoc h.fine (Pl.E1 zo hf) ?_ ?_
  ·rw[<-h.run];exact⟨ho,trivial⟩
  ·rw[<-h.run];show(Pl.aul b (Pl.Fs n (f n))).2.ps.length+20<=aA;omega
namespace Pl
variable {h a:Nat}
variable (i n:Nat) (sc:List UInt8)
theorem abD(u v:List UInt8)(a d:Nat)(ha:a+1<256)(hd:33<=d)(oZ:d<256):iZ (u++UInt8.ofNat a::UInt8.ofNat d::v)=iZ (u++UInt8.ofNat (a+1)::UInt8.ofNat (d-33)::v):=by
 have e1:(UInt8.ofNat a).toNat=a:=by simp;omega
 have e2:(UInt8.ofNat d).toNat=d:=by simp;omega
 have e3:(UInt8.ofNat (a+1)).toNat=a+1:=by simp;omega
 have e4:(UInt8.ofNat (d-33)).toNat=d-33:=by simp;omega
 have key:∀H:Nat,po (po H (UInt8.ofNat a)) (UInt8.ofNat d)=po (po H (UInt8.ofNat (a+1))) (UInt8.ofNat (d-33)):=λH=>by unfold po;rw[e1,e2,e3,e4];omega
 unfold iZ
 grind
def U8:List UInt8:=2::(short tM++(2::(1::be 8 i++ [2,UInt8.ofNat n])))
theorem XR(w:List UInt8):fp (Fs i w)=U8 i w.length++w:=by unfold fp Fs JI l6 nI short U8;simp[short]
def pM(h a:Nat)(t:Nat)(i:Nat):List UInt8:=(if i=h then[119,UInt8.ofNat (40+a+t),UInt8.ofNat (122-33*t)]else[119,111,114,100])++(if sc=[]then[]else[sc.getD (i%sc.length) 0])
theorem pq(sc:List UInt8)(h a t i:Nat):(pM sc h a t i).length<=16:=by
 unfold pM
 grind
theorem acx(ha:a<50)(i:Nat):root [fp (Fs i (pM sc h a 0 i))]=root [fp (Fs i (pM sc h a 1 i))]:=by
 have hl:(pM sc h a 0 i).length=(pM sc h a 1 i).length:=by unfold pM;rw[ax,ax];split<;>rfl
 rw[tW,tW,XR,XR,hl];unfold pM;by_cases e:i=h
 ·rw[ah e,ah e];have:=abD (0::U8 i (pM sc h a 1 i).length++ [119]) (if sc=[]then[]else[sc.getD (i%sc.length) 0]) (40+a) 122 zo zo zo;simp only[eu,cJ,aX]at this|-
  unfold pM at this;rw[ah e]at this;exact this
 ·rw[aj e,aj e]
theorem ahr(ha:a<50)(n i:Nat):dK n (KQ i (pM sc h a 0 i))=dK n (KQ i (pM sc h a 1 i)):=by unfold dK KQ eU;simp only[jf,qL];rw[acx sc ha];rfl
theorem aiV(ha:a<50):pM sc h a 0 h≠pM sc h a 1 h:=by
 unfold pM;rw[ah rfl,ah rfl];intro e
 grind
theorem Mm{P Q:List fh}:∀k,(∀m,m<3*k->dK (m+1) (ed P m)=dK (m+1) (ed Q m))->cK P k=cK Q k
 |0,_=>rfl
 |k+1,h=>by rw[mZ,mZ];unfold nE fG;rw[Mm k (λm hm=>h m zo),h (3*k) zo,h (3*k+1) zo,h (3*k+2) zo]
theorem Rh(sc:List UInt8){h a n k:Nat}(ha:a<50)(hk:3*k<=n+1):cK (om (pM sc h a 0) n) k=cK (om (pM sc h a 1) n) k:=
 Mm k (λm hm=>by
  cases m with
  |zero=>rfl
  |succ m=>rw[AW _ zo,AW _ zo];exact ahr sc ha _ _)
theorem afD{i:Nat}{w w':List UInt8}(h:KQ i w=KQ i w'):w=w':=by
 injection h with _ h;injection h with h _;injection h with _ _ _ h;injection h with _ h
 grind
end Pl
theorem Zz(sc:List UInt8){h a n k:Nat}(ha:a<50)(hk:3*k<=n+1)(hn:n<=900)(hh:h+1<3*k){ls ms:List (List UInt8)}(Pd:ls=((Pl.om (Pl.pM sc h a 0) n).take (3*k)).map Pl.bj)(hms:ms=((Pl.om (Pl.pM sc h a 1) n).take (3*k)).map Pl.bj):
 Q6 ls ms/\Q6 ls ls/\ls.length=3*k/\ms.length=3*k/\Pl.cK (fI ls) k=Pl.cK (fI ms) k/\∃x y,Pl.dG (fI ls) (fI ms) k=some (x,y)/\x≠y/\Pl.iZ x=Pl.iZ y:=by
 have gP:∀t,∀x∈Pl.om (Pl.pM sc h a t) n,Pl.nz x:=λt=>Pl.ali zo (Pl.pq sc h a t);have bU:∀t,(((Pl.om (Pl.pM sc h a t) n).take (3*k)).map Pl.bj).length=3*k:=λt=>by rw[eT,aP,Pl.ir];omega
 have Dt:∀t,∀l∈((Pl.om (Pl.pM sc h a t) n).take (3*k)).map Pl.bj,Pl.fq l≠none:=λt l hl=>by obtain⟨x,hx,rfl⟩:=iE.1 hl;rw[(Pl.qK _ x).2 zw];simp
 have htx:∀t,∀m,m<3*k->Pl.ed (fI (((Pl.om (Pl.pM sc h a t) n).take (3*k)).map Pl.bj)) m=Pl.ed (Pl.om (Pl.pM sc h a t) n) m:=λt m hm=>by
  have hlt:m<(Pl.om (Pl.pM sc h a t) n).length:=zw;have h1:((Pl.om (Pl.pM sc h a t) n).take (3*k))[m]?=some (Pl.om (Pl.pM sc h a t) n)[m]:=zw;have hme:(Pl.om (Pl.pM sc h a t) n)[m]∈Pl.om (Pl.pM sc h a t) n:=by simp
  rw[NH (l:=Pl.bj (Pl.om (Pl.pM sc h a t) n)[m]) (t:=(Pl.om (Pl.pM sc h a t) n)[m]) zw ((Pl.qK _ _).2 zw)];unfold Pl.ed
  grind
 have h0:=bU 0;have h1:=bU 1;have r0:=Dt 0;have r1:=Dt 1;have t0:=htx 0;have t1:=htx 1;rw[<-Pd]at h0 r0 t0;rw[<-hms]at h1 r1 t1;have hH:Pl.cK (fI ls) k=Pl.cK (fI ms) k:=by rw[Pl.qh k t0,Pl.qh k t1];exact Pl.Rh sc ha hk
 refine⟨⟨zo,zo,zo,r0,r1⟩,⟨rfl,zo,zo,r0,r0⟩,h0,h1,hH,?_⟩;have ok0:Pl.MO (fI ls) k:=λm hm=>by
  rw[t0 m hm];cases m with
  |zero=>exact Pl.Fe
  |succ m=>rw[Pl.AW _ zo];exact Pl.E1 zo (Pl.pq _ _ _ _ _)
 have ok1:Pl.MO (fI ms) k:=λm hm=>by
  rw[t1 m hm];cases m with
  |zero=>exact Pl.Fe
  |succ m=>rw[Pl.AW _ zo];exact Pl.E1 zo (Pl.pq _ _ _ _ _)
 rcases Pl.LH k ok0 ok1 hH with⟨x,y,g1,g2,g3,_,_⟩|⟨_,g⟩
 ·grind
 ·have:=g (h+1) hh;rw[t0 _ hh,t1 _ hh,Pl.AW _ zo,Pl.AW _ zo]at this;exact absurd (Pl.afD this) (Pl.aiV sc ha)
end Go.Proofs.YtbhpofdafhahgaaGreatDoor
namespace Go.Proofs
abbrev Tryz.akH:Go.Conc.Locks.MuLink:={lock:=117,unlock:=118,ilock:=181,iunlock:=182,lockSlow:=241,unlockSlow:=244,disable:=237,enable:=239,acquire:=240,relMerge:=242,cas32:=238,add32:=243,tMutex:=138,tIMutex:=136,tPMutex:=285,tPIMutex:=348,tPI32:=350,tUP:=295,tNoCopy:=133,tU32:=134}
theorem Tryz.aie:Go.Conc.Locks.MuLib Tryz.prog Tryz.akH:=
 ⟨Tryz.func117,Tryz.func118,Tryz.func181,Tryz.func182,Tryz.func237,Tryz.func239,Tryz.func240,Tryz.func242,Tryz.func238,Tryz.func243,
 Tryz.underlying136,Tryz.runUnderlying136,Tryz.sizeOf136,Tryz.isAgg136,Tryz.zeroValue136,
 Tryz.underlying138,Tryz.runUnderlying138,Tryz.sizeOf138,Tryz.isAgg138,Tryz.zeroValue138,
 Tryz.underlying285,Tryz.runUnderlying285,Tryz.sizeOf285,Tryz.isAgg285,Tryz.zeroValue285,
 Tryz.underlying348,Tryz.runUnderlying348,Tryz.sizeOf348,Tryz.isAgg348,Tryz.zeroValue348,
 Tryz.underlying350,Tryz.runUnderlying350,Tryz.sizeOf350,Tryz.isAgg350,Tryz.zeroValue350,
 Tryz.underlying295,Tryz.runUnderlying295,Tryz.sizeOf295,Tryz.isAgg295,Tryz.zeroValue295,
 Tryz.underlying133,Tryz.runUnderlying133,Tryz.sizeOf133,Tryz.isAgg133,Tryz.zeroValue133,
 Tryz.underlying21,Tryz.runUnderlying21,Tryz.sizeOf21,Tryz.isAgg21,Tryz.zeroValue21,zp⟩
end Go.Proofs
namespace Go.Proofs.YtbhpofdafhahgaaGreatDoor
open Go.RowKit Go.MuLone
variable [Inhabited eH]
def Ud(st s:Int)(lg tr bk op:Value)(bad:Bool):List Value:=[.int .i32 st,.int .u32 s,lg,tr,bk,op,.bool bad]
theorem acs(gD:Nat)(lg tr bk op:Value)(s:Int)(K:FuncId)(cg:Array Value)(Q:Value->World->Prop)(w:World)(hB:ay w gD 144 (Ud 0 s lg tr bk op false))
 (alS:∀W,(callFunc K cg).run Tryz.prog W= .ok (.enter K cg) W)
 (hK:bG K cg (w.setCell ⟨gD,0,none⟩ (.int .i32 1)) λe w'=>∃err Ke,e= .returned err/\Q err w'/\ay w' gD 144 (Ud 1 s lg tr bk Ke false)/\∀W,bG 81 #[err,.iface 30 (.int .i64 3)] W λe W'=>e= .returned (.bool false)/\W=W'):
 bG 71 #[.pointer (some ⟨gD,0,none⟩),.func (.func K) #[] cg] w λe w'=>∃err w1 Ke,e= .returned err/\Q err w1/\ay w1 gD 144 (Ud 1 s lg tr bk Ke false)/\w'=w1.setCell ⟨gD,0,none⟩ (.int .i32 0):=by
 have c0:=hB.cell 0;have f0:=hB.frozen 0;have Fb:=hB.bw 0 (.int .i32 1);have c6:=Fb.cell 6;unfold Ud at c0 c6;simp only[au,aL,jC]at c0 c6
 go_enter_defers Tryz.func71,Tryz.ntmps71
 go_wp2_with (go_at_call 117;refine(lock_free Tryz.aie ⟨gD,0,none⟩ _ c0 f0).mono ?_;rintro e w' ⟨rfl,rfl⟩);refine hK.mono ?_;rintro e w1 ⟨err,Ke,rfl,hq,Fb,hIs⟩;have HI:=hIs w1;go_wp2_with fail;refine HI.mono ?_;rintro e w2 ⟨rfl,rfl⟩;go_wp2_with fail;refine qM (f:=118) (args:= #[.pointer (some ⟨gD,0,none⟩)]) zu (by simp[go_sem]) ?_;refine(unlock_deferred Tryz.aie ⟨gD,0,none⟩ .returning _ (Fb.cell 0) (Fb.frozen 0)).mono ?_;rintro e u' sL ⟨rfl,rfl,rfl⟩;exact⟨_,results_tmp rfl _ _ _,err,w1,Ke,rfl,hq,Fb,rfl⟩
theorem OT{fn:Func}{t:Tmp}{tmps:Array Value}{w:World}{g:Nat}{a:Value}(h:fn.results= #[.cell t 162])(ht:tmps.getD t undef= .pointer (some ⟨g,0,none⟩))(hB:ay w g 162 [a]):
 (results fn tmps).run Tryz.prog w= .ok (.agg #[a]) w:=by
 have c0:=hB.cell 0;simp only[au]at c0;simp only[fF]at ht;simp[results,h,ht,go_sem,c0,asAddr]
section
variable {E:fe} {js:List Nat} {ms Zw:List (Nat×List Pl.Pr)} {aA:Nat} {ps:List Pl.Pr} {w w':World}
theorem sO.sub(h:sO E js ms aA ps w)(hm:∀m∈Zw,m∈ms):sO E js Zw aA ps w:=by obtain⟨rd,G,r,h⟩:=h;exact⟨rd,G,r,h.ok,h.tw,h.root,λm hm'=>h.marks m zw,h.saved⟩
theorem Sz(hA:sO E js ms aA ps w):
 bG 86 #[.pointer (some ⟨E.gT,0,none⟩)] w λe w'=>dP w w'/\∃r,e= .returned (.agg #[dJ r])/\sO E js ((r,ps)::ms) aA ps w':=by
 obtain⟨rd,G,r,h⟩:=hA;have hb:=h.tw.tree;obtain⟨w1,dj⟩:=ze (w.alloc (.cells #[.pointer none] 162));obtain⟨g,hg⟩:=ze w.heap.size;have aI:=zb dj;have c3:w1.cell? ⟨E.gT,3,none⟩=some (dJ r):=(hb.aa aI hb.lt).cell 3;have B1:=zB dj hg;have c0:=B1.cell 0;have f0:=B1.frozen 0;simp only[au]at c0;have HA:=h;unfold dJ at c3;go_enter Tryz.func86,Tryz.ntmps86;go_wp2_with fail;have bz:Below w.heap.size w (w1.setCell ⟨g,0,none⟩ (dJ r)):=aI.setCell (show w.heap.size<=g from gF hg) _;have h:=HA;refine bH (OT rfl rfl (B1.bw 0 (dJ r))) rfl ⟨bz,r,rfl,rd,G,r,h.ok,h.tw.aa bz,h.root.mv (Ext.refl G) (λv pg hp=>hp.aa bz) (λx a v hr=>⟨v,hr.aa bz hr.lt,.inl rfl⟩),(λm hm=>(?_:lZ E G _ aA m.1 m.2)),h.saved.refs (Ext.refl G) (λx a v hr=>⟨v,hr.aa bz hr.lt,.inl rfl⟩) r⟩;rcases cV.1 hm with e|hm
 ·rw[e];exact h.root.mv (Ext.refl G) (λv pg hp=>hp.aa bz) (λx a v hr=>⟨v,hr.aa bz hr.lt,.inl rfl⟩)
 ·exact(h.marks m hm).mv (Ext.refl G) (λv pg hp=>hp.aa bz) (λx a v hr=>⟨v,hr.aa bz hr.lt,.inl rfl⟩)
theorem acj{r:Nat}{l:List Pl.Pr}(hA:sO E js ms aA ps w)(hr:(r,l)∈ms):
 bG 106 #[.pointer (some ⟨E.gT,0,none⟩),.agg #[dJ r]] w λe w'=>e= .returned (.tuple #[])/\SF (Db E js ms aA) w w'/\sO E js ms aA l w':=by
 obtain⟨rd,G,r0,h⟩:=hA;obtain⟨g,w1,hg,dj,aI,B1⟩:=zE w 162 [dJ r];have c1:=B1.cell 0;simp only[au]at c1;have hw:TW (E.to r0) w1 rd G:=h.tw.aa aI;have c3:w1.cell? ⟨E.gT,3,none⟩=some (dJ r0):=hw.tree.cell 3;have f3:w1.frozen? ⟨E.gT,3,none⟩=false:=hw.tree.frozen 3;have HA:=zd h hw aI;unfold dJ at dj c1 c3|-
 go_enter Tryz.func106,Tryz.ntmps106;go_wp2_with fail;obtain⟨h,hw,aI⟩:=id HA;obtain⟨h1,h2⟩:=hw.root r;have e:∀r0,(E.to r0).to r=E.to r:=λ_=>rfl;rw[e]at h1;have hp:∀v pg,iq w v pg->iq (w1.setCell ⟨E.gT,3,none⟩ (dJ r)) v pg:=λv pg hp=>h2.pg v pg (hp.aa aI);have hu:uh w (w1.setCell ⟨E.gT,3,none⟩ (dJ r)):=λx a v hr'=>h2.refs x a v (hr'.aa aI hr'.lt);go_end0;exact⟨rfl,⟨(lW.ae aI).trans h2.TY,(ag.ae aI _).aE h2.low,(lW.ae aI).trans h2.TY⟩,rd,G,r,h.ok,h1,(h.marks _ hr).mv (Ext.refl G) hp hu,λm hm=>(h.marks m hm).mv (Ext.refl G) hp hu,h.saved.refs (Ext.refl G) hu r⟩
end
open Go.Maps Go.WideMaps
variable {F:Nat->Prop} {w w':World} {ts:List TypeId}
theorem bR.sp_(h:bR F w ts):kM F w ts:=λk t ht hn hk=>by obtain⟨t',h1,h2⟩:=h k hk;exact hn (ht.dv h2▸h1)
theorem dX.kinds{b n sz:Nat}{f:List UInt8->Option Value}(h:dX w b n f sz)(ho:ag F w w')(hk:bR F w ts):dX w' b n f sz:=
 h.only ho (λhf=>by obtain⟨t,_,ht⟩:=hk b hf;exact h.kz t ht)
theorem wH.kinds{gt:Nat}{t:Pl.Tb}(h:wH w gt t)(ho:ag F w w')(hk:bR F w ts)(h1:245∉ts)(h2:121∉ts):wH w' gt t:=by obtain⟨Ac,cc,a,b,c⟩:=h;exact⟨Ac,cc,ho.cY hk a h1,b,c.jL ho (λp hp hf=>by obtain⟨t',e1,e2⟩:=hk _ hf;exact h2 ((c.2 p hp).dv e2▸e1))⟩
theorem p5.kinds{F:Nat->Prop}{w w':World}{ts:List TypeId}{gM gt:Nat}{tb:Option Pl.Tb}(h:p5 w gM gt tb)(ho:ag F w w')(hk:bR F w ts)(h1:245∉ts)(h2:121∉ts):p5 w' gM gt tb:=by
 cases tb with
 |none=>exact dX.kinds h ho hk
 |some t=>exact⟨h.1.kinds ho hk,h.2.1.kinds ho hk h1 h2,h.2.2⟩
def fe.on(E:fe)(d:Pl.Dk):fe:={E with d:=d}
section
variable {E:fe} {js:List Nat} {ms:List (Nat×List Pl.Pr)} {aA:Nat} {ps:List Pl.Pr} {w w':World} {F:Nat->Prop} {d':Pl.Dk} {cO:Int}
theorem sO.Ez(h:sO E js ms aA ps w)(ho:ag F w w')(hk:bR F w nG)(hd:aJ w' E.m.g E.vD d' cO)(bU:E.m.first+E.m.n<=d'.aV.length)(sB:∀j,d'.look (E.m.first+j)=E.d.look (E.m.first+j))(me:d'.aW≠0):sO (E.on d') js ms aA ps w':=by
 obtain⟨rd,G,r,h⟩:=h;have eD:(E.on d').D=E.D:=funext sB;have eD2:∀r,((E.on d').to r).D=(E.to r).D:=λ_=>funext sB;have hp:∀v pg,iq w v pg->iq w' v pg:=λv pg hp=>hp.only ho hk zj;have hu:uh w w':=λx a v hr=>⟨v,ho.cY hk hr zj,.inl rfl⟩;refine⟨cO,G,r,⟨h.ok.n,me,h.ok.bad,h.ok.fits,h.ok.one⟩,⟨ho.cY hk h.tw.tree zj,hd,?_,bU,⟨h.tw.low.g,h.tw.low.d,h.tw.low.t⟩,ao h.tw.aq ho.size⟩,h.root.mv (Ext.refl G) hp hu,λm hm=>(h.marks m hm).mv (Ext.refl G) hp hu,?_⟩
 ·rw[eD2];exact h.tw.inv.only ho hk zj zj
 ·have h1:=h.saved.refs (Ext.refl G) hu r;rcases h1 with h1|⟨rs,hs,ts,ss,v,k1,k2,k3,k4,k5,k6,k7,k8⟩
  ·exact .inl h1
  ·refine .inr ⟨rs,hs,ts,ss,v,k1,k2,k3,k4,k5,?_,k7,k8⟩;rw[eD2];exact k6
theorem eX.Ez{gK gM gt:Nat}{b:Pl.Bs}(h:eX (Db E js ms aA) gK gM gt b w)(ho:ag F w w')(hk:bR F w nG)(hd:aJ w' E.m.g E.vD d' cO)(bU:E.m.first+E.m.n<=d'.aV.length)(sB:∀j,d'.look (E.m.first+j)=E.d.look (E.m.first+j))(me:d'.aW≠0):eX (Db (E.on d') js ms aA) gK gM gt b w':=
 ⟨ho.cY hk h.aC zj,sO.Ez h.fv ho hk hd bU sB me,h.tq.kinds ho hk zj zj,h.off,h.lo⟩
theorem sO.gq(h:sO E js ms aA ps w):∃rd,aJ w E.m.g E.vD E.d rd:=by obtain⟨rd,G,r,h⟩:=h;exact⟨rd,h.tw.gq⟩
end
structure ia where
 gD:Nat
 gl:Nat
 gK:Nat
 gM:Nat
 gt:Nat
 s:Int
 va:Value
 vs:List Value
 l:Pl.Lg
 E:fe
 js:List Nat
 aA:Nat
 b:Pl.Bs
abbrev ia.fv(V:ia)(ms:List (Nat×List Pl.Pr)):iM:=Db V.E V.js ms V.aA
def ia.put(V:ia)(b:Pl.Bs)(gt:Nat):ia:={V with b:=b,gt:=gt}
structure lu(V:ia)(st:Int)(op:Value)(w:World):Prop where
 aC:ay w V.gD 144 (Ud st V.s (aU V.gl) (aU V.E.gT) (aU V.gK) op false)
 log:dW w V.gl V.E.m.g V.va V.l
 rows:pR w V.va V.vs V.l.all
 zn:Zn V.gD/\∀k,uq V.gl V.E.m.g V.E.vD V.va k->Zn k
structure cU(V:ia)(st:Int)(op:Value)(ms:List (Nat×List Pl.Pr))(w:World):Prop where
 core:lu V st op w
 book:eX (V.fv ms) V.gK V.gM V.gt V.b w
 ctx:Ctx w
def FO:List TypeId:=[144,252,29,5]
theorem ud{F:Nat->Prop}{w w':World}{aq n size:Nat}{e:TypeId}{v:Value}{xs:List Value}(ho:ag F w w')(h:w.ownsRow aq e size v n xs)(hF:∀k,F k->¬jh w k e):w'.ownsRow aq e size v n xs:=
 ho.own h (λg hg hf=>hF g hf (dc h hg))
section
variable {V:ia} {st:Int} {op:Value} {ms Zw:List (Nat×List Pl.Pr)} {w w':World} {ts:List TypeId} {bs:Nat->Prop}
theorem lu.frame{F:Nat->Prop}(h:lu V st op w)(ho:ag F w w')(hF:∀k t,F k->jh w k t->t∉FO):lu V st op w':=by have hn:∀{t},t∈FO->∀k,F k->¬jh w k t:=zw;exact⟨ho.aC h.aC (λhk=>hn (t:=144) zj _ hk h.aC.dV),⟨ho.aC h.log.aC (λhk=>hn (t:=252) zj _ hk h.log.aC.dV),h.log.small⟩,⟨ud ho h.rows.own (λk hk=>hn (t:=29) zj k hk),λk v l hv hl=>ud ho (h.rows.each k v l hv hl) (λk hk=>hn (t:=5) zj k hk)⟩,h.zn⟩
theorem lu.TY(h:lu V st op w)(hx:lW ts bs w w')(ht:∀t∈FO,t∉ts)(hb:∀k t,bs k->jh w k t->t∉FO):lu V st op w':=by
 obtain⟨F,h1,h2⟩:=hx;refine h.frame h1 (λk t hk mr=>?_);rcases h2 k hk with⟨t',e1,e2⟩|e
 ·rw[mr.dv e2]
  grind
 grind
theorem lu.aa(h:lu V st op w)(hb:dP w w'):lu V st op w':=h.frame (ag.ae hb (λ_=>False)) zu
theorem eX.sf{S:iM}{aA:Nat}(hS:eP S aA){gK gM gt:Nat}{b:Pl.Bs}(h:eX S gK gM gt b w)(hf:SF S w w')(ha:S.At b.ps w'):eX S gK gM gt b w':=
 ⟨SF.aC hS hf h.fv h.aC zj,ha,p5.sf hS hf h.fv h.off h.tq,h.off,h.lo⟩
theorem cU.sf(h:cU V st op ms w)(hf:SF (V.fv ms) w w')(ha:(V.fv ms).At V.b.ps w'):cU V st op ms w':=
 ⟨h.core.TY hf.1 zj (λk t hk=>hk.elim),h.book.sf (dS _ _ _ _) hf ha,h.ctx.gl hf.2.1⟩
theorem cU.aa(h:cU V st op ms w)(hb:dP w w'):cU V st op ms w':=
 ⟨h.core.aa hb,h.book.aa (dS _ _ _ _) hb,h.ctx.aa hb⟩
theorem eX.ani{S:iM}{gK gM gt:Nat}{b:Pl.Bs}(h:eX S gK gM gt b w):∀k t,ZV gK gM gt b.tb k->jh w k t->t=203\/t=245:=λk t hk ht=>by
 rcases hk with e|e|⟨e1,e2⟩
 ·subst e;exact .inl (ht.dv h.aC.dV)
 ·obtain⟨f,hf⟩:=h.tq.map;exact(hf.kz t zw).elim
 ·have h1:=h.tq;cases kI:b.tb with
  |none=>grind
  |some t'=>rw[kI]at h1;obtain⟨_,⟨Ac,cc,h2,_⟩,_⟩:=h1;subst e2;exact .inr (ht.dv h2.dV)
theorem cU.adF{b':Pl.Bs}{e:Ending}(h:cU V st op ms w)(hq:vW (V.fv ms) V.gK V.gM V.gt V.b b' w e w'):e= .returned .nilIface/\∃nA,cU (V.put b' nA) st op ms w'/\LD (V.fv ms) (ZV V.gK V.gM V.gt V.b.tb) w w':=by
 obtain⟨he,nA,SG,_,hf⟩:=hq;refine⟨he,nA,⟨?_,SG,h.ctx.gl hf.2.1⟩,hf⟩;have:=h.core.TY hf.1 zj (λk t hk mr=>?_)
 ·exact⟨this.aC,this.log,this.rows,this.zn⟩
 ·rcases hk with hk|hk
  ·exact hk.elim
  ·rcases h.book.ani k t hk mr with e|e<;>rw[e]<;>decide
theorem cU.sub(h:cU V st op ms w)(hm:∀m∈Zw,m∈ms):cU V st op Zw w:=
 ⟨h.core,⟨h.book.aC,sO.sub h.book.fv hm,h.book.tq,h.book.off,h.book.lo⟩,h.ctx⟩
theorem cU.cell{ZK:Int}{Ke:Value}{i:Nat}{u:Value}(h:cU V st op ms w)(e:(Ud st V.s (aU V.gl) (aU V.E.gT) (aU V.gK) op false).set i u=Ud ZK V.s (aU V.gl) (aU V.E.gT) (aU V.gK) Ke false):cU V ZK Ke ms (w.setCell ⟨V.gD,i,none⟩ u)/\ag (·=V.gD) w (w.setCell ⟨V.gD,i,none⟩ u):=by have ho:ag (·=V.gD) w (w.setCell ⟨V.gD,i,none⟩ u):=(ag.refl (·=V.gD) w).setCell (p:=⟨V.gD,i,none⟩) zu _;have hk:=aD h.core.aC;have hb:=h.core.aC.bw i u;rw[e]at hb;refine⟨⟨⟨hb,h.core.log.only ho hk zj,h.core.rows.only ho hk zj zj,h.core.zn⟩,⟨ho.cY hk h.book.aC zj,sO.bQ h.book.fv ho hk.sp_ zj,h.book.tq.kinds ho hk zj zj,h.book.off,h.book.lo⟩,h.ctx.gl (ho.mono (λk _ hk=>by rw[hk];exact h.core.zn.1))⟩,ho⟩
end
variable {op:Value} {w:World}
variable (V:ia) (ms:List (Nat×List Pl.Pr))
theorem cU.marked{V:ia}{st:Int}{ms Zw:List (Nat×List Pl.Pr)}{w':World}(h:cU V st op ms w)(hb:dP w w')(ht:sO V.E V.js Zw V.aA V.b.ps w'):cU V st op Zw w':=
 ⟨h.core.aa hb,⟨h.book.aC.aa hb h.book.aC.lt,ht,h.book.tq.aa hb,h.book.off,h.book.lo⟩,h.ctx.aa hb⟩
theorem cU.bQ{V:ia}{st:Int}{op:Value}{ms:List (Nat×List Pl.Pr)}{w w':World}{F:Nat->Prop}{ts:List TypeId}(h:cU V st op ms w)(ho:ag F w w')(hk:bR F w ts)(ht:∀t∈FO++vM++ [203,245,121],t∉ts)(hz:∀k,F k->Zn k):cU V st op ms w':=by have hc:∀t∈FO,t∉ts:=zw;have PG:∀t∈vM,t∉ts:=zw;refine⟨h.core.frame ho (λk t hf mr hm=>?_),⟨ho.cY hk h.book.aC zw,sO.bQ h.book.fv ho hk.sp_ PG,h.book.tq.kinds ho hk zw zw,h.book.off,h.book.lo⟩,h.ctx.gl (ho.mono zS)⟩;obtain⟨t',e1,e2⟩:=hk k hf;exact hc t hm (mr.dv e2▸e1)
def ahz(st:Int)(ms:List (Nat×List Pl.Pr))(time:Int)(w:World)(e:Ending)(w':World):Prop:=
 e= .returned .nilIface/\ag (·=V.gD) w w'/\∃go r g2 mJ,cU V st (aU go) ((r,V.b.ps)::ms) w'/\ay w' go 166 [.int .i64 time,.slice none 0 0,dJ r,.map (some g2),.int .i64 (V.b.count:Nat)]/\p5 w' g2 mJ V.b.tb/\w.heap.size<=go/\w.heap.size<=g2
theorem Vu(g0 g1:Nat)(time:Int)(w:World)(h:cU V 1 (.pointer none) ms w)(h0:ay w g0 36 [aU V.gD])(h1:ay w g1 3 [.int .i64 time]):
 bG 85 #[.pointer (some ⟨g0,0,none⟩),.pointer (some ⟨g1,0,none⟩)] w (ahz V 1 ms time w):=by
 have y0:=cA h0;have y1:=cA h1;have hB:=h.core.aC;have d3:w.cell? ⟨V.gD,3,none⟩=some (.pointer (some ⟨V.E.gT,0,none⟩)):=hB.cell 3;have d5:w.cell? ⟨V.gD,5,none⟩=some (.pointer none):=hB.cell 5;unfold aU at y0;have hmk:=Sz (w:=w.drew) (ms:=ms) (sO.bQ (F:=λ_=>False) (ts:=[]) h.book.fv (ag.refl _ w).drew (λ_ _ _ _ hf=>hf) zu);obtain⟨gD,iJ⟩:=ze V.gD;obtain⟨gT,hgT⟩:=ze V.E.gT;have Pu:=And.intro iJ hgT;rw[iJ]at y0 d3 d5;rw[hgT]at d3;go_enter Tryz.func85,Tryz.ntmps85
 go_upto_region 3 with fail
 refine aN 8 (λ_=>True) (λW=>W.cell? ⟨g1,0,none⟩=some (.int .i64 time)/\W.cell? ⟨g0,0,none⟩=some (.pointer (some ⟨gD,0,none⟩))/\W.cell? ⟨gD,3,none⟩=some (.pointer (some ⟨gT,0,none⟩))) zp trivial ⟨y1,y0,d3⟩ (λaz=>?_);refine zt 0 (h:=zt 1 (h:=zt 2 (h:=zt 3 (h:=zt 4 (h:=zt 5 (h:=?_))))));refine zr 6 λK hK=>?_;go_simp;rw[<-Pu.2];refine hmk.mono ?_;rintro e w2 ⟨bz,r,rfl,wC⟩;have ZL:Below w.heap.size w w2:=cG bz;have D2:=h.marked ZL wC;obtain⟨go,w3,hgo,fX,bg,B3⟩:=zE w2 166 [.int .i64 time,.slice none 0 0,dJ r,.map none,.int .i64 0];have D3:=D2.aa bg;have dM:=ZL.trans (bg.mono ZL.size);have EY:=D3.core.aC;have e3:w3.cell? ⟨gD,3,none⟩=some (.pointer (some ⟨gT,0,none⟩)):=by rw[<-Pu.1,<-Pu.2];exact EY.cell 3
 have e4:w3.cell? ⟨gD,4,none⟩=some (.pointer (some ⟨V.gK,0,none⟩)):=by rw[<-Pu.1];exact EY.cell 4
 have z0:=cA (h0.aa dM h0.lt);have z1:=cA (h1.aa dM h1.lt);unfold aU at z0;rw[Pu.1]at z0;have HK:=aaE V.gK V.gM V.gt V.b w3 D3.book D3.ctx;have d2:w2.cell? ⟨g1,0,none⟩=some (.int .i64 time)/\w2.cell? ⟨g0,0,none⟩=some (.pointer (some ⟨gD,0,none⟩))/\w2.cell? ⟨gD,3,none⟩=some (.pointer (some ⟨gT,0,none⟩)):=by have a1:=cA (h0.aa ZL h0.lt);have a2:=cA (h1.aa ZL h1.lt);have a3:w2.cell? ⟨V.gD,3,none⟩=some (.pointer (some ⟨V.E.gT,0,none⟩)):=D2.core.aC.cell 3;unfold aU at a1;rw[Pu.1]at a1 a3;rw[Pu.2]at a3;exact⟨a2,a1,a3⟩
 have D3C:=zd z1 z0 e3;have GX:=ao (show w.heap.size<=w2.heap.size from ZL.size) (gF hgo);go_wp2_with fail;refine hK.out _ _ ⟨λ_=>trivial,d2⟩ (λaz=>?_);refine zt 7 (h:=?_);refine zr 8 λK hK=>?_;go_simp;(try rw[fX]);refine hK.out _ _ ⟨λ_=>trivial,D3C⟩ (λaz=>?_);refine zt 9 (h:=?_);(try simp only[Act.put,zq1,zq2,zP,zq4,zq5,RR]);refine bh zp ?_ _;go_wp2_with fail;refine HK.mono ?_;rintro e w4 ⟨cj,g2,mJ,rfl,EX,rQ,_⟩;have hD4:=D3.aa cj;have B4:=B3.aa cj B3.lt;have B4':=(B4.bw 3 (.map (some g2))).bw 4 (.int .i64 (V.b.count:Nat));have agD:=dM.trans (cj.mono dM.size);have a0:=cA (h0.aa agD h0.lt);unfold aU at a0;rw[Pu.1]at a0;have a3:=B4.cell 3;have a4:=B4.cell 4;have f3:=B4.frozen 3;have f4:=B4.frozen 4;simp only[au,aL]at a3 a4;have a5:w4.cell? ⟨gD,5,none⟩=some (.pointer none):=by rw[<-Pu.1];exact hD4.core.aC.cell 5
 have f5:w4.frozen? ⟨gD,5,none⟩=false:=by rw[<-Pu.1];exact hD4.core.aC.frozen 5
 have Ue:g0≠go:=λe=>by have:=GX;have:=h0.lt;omega
 have hnD:gD≠go:=λe=>by have:=GX;have:=h.core.aC.lt;have:=Pu.1;omega
 have aua:go≠g0:=λe=>Ue e.symm;have aqx:go≠gD:=λe=>hnD e.symm;have HQ:=ze6 hD4 B4 EX rQ agD cj;go_wp2_with fail;go_ret;obtain⟨hD4,B4,EX,rQ,agD,cj⟩:=id HQ;obtain⟨w5,wO⟩:=ze ((w4.setCell ⟨go,3,none⟩ (.map (some g2))).setCell ⟨go,4,none⟩ (.int .i64 (V.b.count:Nat)));rw[wO];have aqk:Zn go:= .inl (ao h.ctx.lo GX);have kF:ag (·=go) w4 w5:=by rw[<-wO];exact((ag.refl (·=go) w4).zs 3).zs 4
 have PB:=aD B4;have D5:=hD4.bQ kF PB zj (λk hk=>hk▸aqk);have B5:ay w5 go 166 [.int .i64 time,.slice none 0 0,dJ r,.map (some g2),.int .i64 (V.b.count:Nat)]:=by rw[<-wO];exact(B4.bw 3 (.map (some g2))).bw 4 (.int .i64 (V.b.count:Nat))
 have ho:ag (·=gD) w w5:=((ag.ae agD (·=gD))).trans (kF) (λx hx e=>by have:=GX;omega);obtain⟨D6,o6⟩:=D5.cell (i:=5) (u:=aU go) (Ke:=aU go) (ZK:=1) rfl;rw[Pu.1]at D6 o6;refine⟨rfl,?_,go,r,g2,mJ,?_,?_,?_,GX,ao dM.size rQ⟩
 ·rw[Pu.1];exact ho.aE o6
 ·exact D6
 ·exact B5.mK (p:=⟨gD,5,none⟩) aqx _
 ·exact(EX.kinds kF PB zj zj).kinds o6 (Pu.1▸aD D5.core.aC) zj zj
theorem cU.lock{V:ia}{ms:List (Nat×List Pl.Pr)}{a b:Int}(h:cU V a op ms w):cU V b op ms (w.setCell ⟨V.gD,0,none⟩ (.int .i32 b))/\ag (·=V.gD) w (w.setCell ⟨V.gD,0,none⟩ (.int .i32 b)):=
 h.cell (i:=0) (u:= .int .i32 b) (Ke:=op) (ZK:=b) rfl
theorem oE(op:Value)(K:FuncId)(cg:Array Value)(Q:World->Value->World->Prop)(w:World)(h:cU V 0 op ms w)(alS:∀W,(callFunc K cg).run Tryz.prog W= .ok (.enter K cg) W)
 (hK:∀W,cU V 1 op ms W->W=w.setCell ⟨V.gD,0,none⟩ (.int .i32 1)->ag (·=V.gD) w W->bG K cg W λe w'=>∃err Ke V' Zw,V'.gD=V.gD/\V'.gl=V.gl/\V'.E.gT=V.E.gT/\V'.gK=V.gK/\V'.s=V.s/\e= .returned err/\cU V' 1 Ke Zw w'/\Q W err w'/\∀W,bG 81 #[err,.iface 30 (.int .i64 3)] W λe W'=>e= .returned (.bool false)/\W=W'):
 bG 71 #[.pointer (some ⟨V.gD,0,none⟩),.func (.func K) #[] cg] w λe w'=>∃err w1 W,e= .returned err/\W=w.setCell ⟨V.gD,0,none⟩ (.int .i32 1)/\Q W err w1/\w'=w1.setCell ⟨V.gD,0,none⟩ (.int .i32 0):=by
 obtain⟨h1,h2⟩:=h.lock (b:=1);refine(acs V.gD (aU V.gl) (aU V.E.gT) (aU V.gK) op V.s K cg (λerr w1=>Q (w.setCell ⟨V.gD,0,none⟩ (.int .i32 1)) err w1) w h.core.aC alS ((hK _ h1 rfl h2).mono ?_)).mono ?_
 ·rintro e w' ⟨err,Ke,V',Zw,e1,e2,e3,e4,e5,rfl,hd,hq,hi⟩;have hb:=hd.core.aC
  grind
 grind
theorem aaM(time:Int)(w:World)(h:cU V 0 (.pointer none) ms w):
 bG 38 #[aU V.gD,.int .i64 time] w (ahz V 0 ms time w):=by
 obtain⟨w1,dj⟩:=ze (w.alloc (.cells #[aU V.gD] 36));obtain⟨w2,iA⟩:=ze (w1.alloc (.cells #[.int .i64 time] 3));obtain⟨g0,jz⟩:=ze w.heap.size;have aI:=zb dj;have bz:=zb iA;have ma:w1.heap.size=g0+1:=by rw[<-dj,<-jz];simp
 have B1:=zB dj jz;have B2:ay w2 (g0+1) 3 [.int .i64 time]:=by rw[<-iA,<-ma];exact ay.new w1 3 _
 have LS:=B1.aa bz B1.lt;have dM:=aI.trans (bz.mono aI.size);have h2:=h.aa dM;have c0:=cA LS;have iJ:V.gD<g0:=by rw[<-jz];exact h.core.aC.lt
 have HC:=(oE V ms (.pointer none) 85 #[.pointer (some ⟨g0,0,none⟩),.pointer (some ⟨g0+1,0,none⟩)] (λW err w'=>ahz V 1 ms time W (.returned err) w') w2 h2 (λW=>by simp[go_sem]) (λW hd hW ho=>by
  have b1:ay W g0 36 [aU V.gD]:=ho.aC LS (λe=>by omega);have b2:ay W (g0+1) 3 [.int .i64 time]:=ho.aC B2 (λe=>by omega);refine(Vu V ms g0 (g0+1) time W hd b1 b2).mono ?_;rintro e w' hq;have MF:=hq;obtain⟨rfl,h1,go,r,g2,mJ,h3,_⟩:=hq;exact⟨.nilIface,_,V,_,rfl,rfl,rfl,rfl,rfl,rfl,h3,MF,λW=>th 3 W⟩))
 have HX:=zd dM h2 jz;unfold aU at dj c0|-
 have JJ:=zf Tryz.prog;go_enter Tryz.func38,Tryz.ntmps38;go_wp2_with fail;refine HC.mono ?_;rintro e w4 ⟨err,w3,W,rfl,hW,hq,rfl⟩;obtain⟨he,h1,go,r,g2,mJ,h3,h4,h5,h6,h7⟩:=hq;injection he with he;subst he;obtain⟨dM,h2,jz⟩:=id HX;obtain⟨k1,k2⟩:=h2.lock (b:=1);obtain⟨k3,k4⟩:=h3.lock (b:=0);have hWs:W.heap.size=w2.heap.size:=by rw[hW];simp[World.setCell]
 have arj:go≠V.gD:=λe=>by have:=h2.core.aC.lt;omega
 have HQ:(ahz V 0 ms time w (.returned .nilIface) (w3.setCell ⟨V.gD,0,none⟩ (.int .i32 0))):=by
  refine⟨rfl,(((ag.ae dM (·=V.gD)).aE (hW▸k2)).aE h1).aE k4,go,r,g2,mJ,k3,h4.mK (p:=⟨V.gD,0,none⟩) arj _,h5.kinds k4 (aD h3.core.aC) zj zj,?_,?_⟩
  ·have:=dM.size;omega
  ·have:=dM.size;omega
 go_wp2_with fail;go_ret;exact HQ
end Go.Proofs.YtbhpofdafhahgaaGreatDoor
