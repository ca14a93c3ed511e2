/- Part 9: PgF PlainLogs WalF WalG WalH PlainAppend. -/
import Derived.Lib.Builder
import Derived.Lib.UnsafeStr
import Derived.Laws.Externs
import Derived.Test.YtbhpofdafhahgaaGreatDoorMq8
set_option linter.all false
set_option maxHeartbeats 8000000
set_option maxRecDepth 100000
namespace Go.Proofs.YtbhpofdafhahgaaGreatDoor
open Go.RowKit
variable {e:TypeId} {s aq n lo k a:Nat} {w w':World} {v:Value} {cs:List Value} {F:Nat->Prop} {ts:List TypeId}
variable (ks:List Pl.Key) (ats:List Nat) (tail:List UInt8)
theorem Rw.kinds(h:Rw e s w aq v n cs):bR (λk=>v.ownBlock=some k) w [e]:=λ_ hk=>⟨e,zu,dc h hk⟩
theorem aD{g:Nat}{t:TypeId}(h:ay w g t cs):bR (·=g) w [t]:=λ_ hk=>⟨t,zu,hk▸h.dV⟩
theorem Rw.iC(h:Rw e s w aq v n cs)(ho:ag F w w')(hF:bR F w ts)(ht:e∉ts):Rw e s w' aq v n cs:=ho.F9 hF h ht
structure pY(w:World)(lo:Nat)(rs ats:List Nat):Prop where
 dm:∀(i r a:Nat),rs[i]?=some r->ats[i]?=some a->ay w r 265 [.int .i64 (a:Nat),.nilIface]
 up:rs.Pairwise (·<·)
 lo:∀r∈rs,lo<=r/\r<w.heap.size
theorem pY.only{rs ats:List Nat}(h:pY w lo rs ats)(ho:ag F w w')(hF:bR F w ts)(ht:265∉ts):pY w' lo rs ats:=
 ⟨λi r a h1 h2=>ho.cY hF (h.dm i r a h1 h2) ht,h.up,λr hr=>⟨(h.lo r hr).1,aK (h.lo r hr).2 ho.size⟩⟩
theorem pY.aa{rs ats:List Nat}(h:pY w lo rs ats)(hb:dP w w'):pY w' lo rs ats:=h.only (ag.ae hb (λ_=>False)) (gG w) zu
theorem pY.nil(w:World)(lo:Nat)(ats:List Nat):pY w lo [] ats:=⟨zu,List.Pairwise.nil,zu⟩
theorem pY.snoc{rs ats:List Nat}(h:pY w lo rs ats)(hk:rs.length=k)(ha:ats[k]?=some a)(hw:w'=w.alloc (.cells #[.int .i64 (a:Nat),.nilIface] 265))(fu:lo<=w.heap.size):pY w' lo (rs++ [w.heap.size]) ats:=by
 have hb:Below w.heap.size w w':=by rw[hw];exact(ak _ _).alloc zo _
 have hsz:w'.heap.size=w.heap.size+1:=zS;refine⟨λi r a' h1 h2=>?_,fS.2 ⟨h.up,zu,λx hx y hy=>?_⟩,λr hr=>?_⟩
 ·rcases eJ i rs.length with hi|hi
  ·rw[kc hi]at h1;exact(h.aa hb).dm i r a' h1 h2
  ·rw[iI hi]at h1;have h3:i=k:=by
    grind
   subst h3;rw[<-hk,jT]at h1;obtain rfl:w.heap.size=r:=zw;rw[ha]at h2;obtain rfl:a=a':=zw;rw[hw];exact ay.new w 265 _
 ·rw[dU.1 hy];exact(h.lo x hx).2
 ·rcases eQ.1 hr with hr|hr
  ·exact⟨(h.lo r hr).1,by have:=(h.lo r hr).2;omega⟩
  grind
def vP(k:Nat):List UInt8:=((ks.zip (ats.drop 1)).drop k).flatMap Pl.Ij++tail
theorem adM{ks:List Pl.Key}{ats:List Nat}{x:Pl.Key}(h:ks[k]?=some x)(ha:ats[k+1]?=some a):vP ks ats tail k=UInt8.ofNat x.length::(x++(Pl.be 4 a++vP ks ats tail (k+1))):=by
 unfold vP;have hz:(ks.zip (ats.drop 1))[k]?=some (x,a):=by
  grind
 have hd:(ks.zip (ats.drop 1)).drop k=(x,a)::(ks.zip (ats.drop 1)).drop (k+1):=by obtain⟨hlt,e⟩:=cR.1 hz;rw[fT hlt,e]
 rw[hd,dR];simp[Pl.Ij,Pl.short]
theorem DJ(w:World)(x:Pl.Key):Src (w.alloc (.cells #[.string (ar x)] 9)) (some ⟨w.heap.size,0,none⟩) (bo [x]):=Src.dE (ay.new w 9 _)
theorem Pc(w:World)(r:Nat):Src (w.alloc (.cells #[.pointer (some ⟨r,0,none⟩)] 160)) (some ⟨w.heap.size,0,none⟩) (aS [r]):=Src.dE (ay.new w 160 _)
def afR(w:World)(e:Ending)(w':World):Prop:=
 ∃b rs,e= .returned (eG b)/\dZ w' b ks rs/\rs.length=ats.length/\pY w' w.heap.size rs ats/\w.heap.size<=b/\Below w.heap.size w w'
theorem SR(l:List UInt8)(w:World)(hl:l=Pl.nj ks ats++tail)(hsz:l.length<=1000)(hp:∀k∈ks,k.length<256)(hk:ks.length<256)(fK:ats.length=ks.length+1)(yT:∀a∈ats,a<=4096):
 bG 281 #[.string (ar l)] w (afR ks ats w):=by
 obtain⟨n,hn⟩:=ze ks.length;rw[hn]at hk fK;obtain⟨a0,ha0⟩:∃a,ats[0]?=some a:=⟨_,aF zo⟩;have TM:ats.headD 0=a0:=by
  cases ats with
  |nil=>simp at ha0
  |cons z zs=>simpa using ha0
 have aty:=yT a0 (bO ha0);have l7:l=105::(UInt8.ofNat n::(Pl.be 4 a0++vP ks ats tail 0)):=by rw[hl];unfold Pl.nj vP;rw[hn,TM];simp
 obtain⟨w1,dj,aI⟩:=zF w (.cells #[.string (ar l),.bool false] 396);have pT:w1.heap.size=w.heap.size+1:=by rw[<-dj];simp
 obtain⟨gR,hgR⟩:=ze w.heap.size;have R1:Pa w1 gR l false:=⟨zo,by rw[<-dj,<-hgR];exact ay.new w 396 _⟩;have HT:=zi (qx gR 1 l false w1 R1 (by rw[l7];simp));have e1:ar (l.take 1)=⟨#[105]⟩:=by rw[l7];rfl
 have e2:l.drop 1=UInt8.ofNat n::(Pl.be 4 a0++vP ks ats tail 0):=by rw[l7];rfl
 rw[e1,e2]at HT;have HLE:Hid ((vP ks ats tail 0).length<=1000):=by have:=hsz;rw[l7,bE,bE,ax]at this;rw[Hid];omega
 have TZ:=zi hgR;clear hl l7 hsz R1 e1 e2 pT TM;go_enter Tryz.func281,Tryz.ntmps281;go_wp2_with fail;refine HT.mono ?_;rintro e w2 ⟨rfl,r2,o2⟩;obtain⟨gI,w3,hgI,fX,bg,BL3⟩:=zE w2 383 [.slice none 0 0,.slice none 0 0];have eY:=zi (o2.cW (B:=w.heap.size) aI.size (λk hk e=>by have:=TZ.out;omega));obtain⟨eI,R3⟩:=dz (aI.trans (eY.trans (bg.mono (ao aI.size eY.size)))) (r2.aa bg);have tl:=pD gR 1 _ false w3 R3 zu zo;rw[rF _ hk,jg,jD]at tl;obtain⟨tl,BL3,HGI⟩:=kt tl BL3 hgI;clear r2 o2 bg HT;go_wp2_with fail;refine tl.mono ?_;rintro e w4 ⟨rfl,r4,o4⟩;obtain⟨BL4,ib⟩:=dz (o4.cY (aD R3.2) BL3 zj) (eI.trans (o4.cW (B:=w.heap.size) eI.size (λk hk e=>by have:=TZ.out;omega)));have l0:=BL4.cell 0;have l1:=BL4.cell 1;have lf:=BL4.frozen 1;simp only[aL,au]at l0 l1;have L1:Hid (w4.drew.cell? ⟨gI,1,none⟩=some (.slice none 0 0)):=l1;have T3:=pD gR 4 (Pl.be 4 a0++vP ks ats tail 0) false w4.drew r4 (by simp[Pl.aG]) zo;rw[xN a0 _ rfl zo,MR]at T3;have T3:=zi T3;clear o4 tl dj fX;go_wp2_with fail;refine aN 10 (λW=>W.cell? ⟨gI,1,none⟩=some (.slice none 0 0)) (λ_=>True) zp L1 trivial (λaz=>?_);refine zt 0 (h:=zt 1 (h:=zt 2 (h:=zt 3 (h:=zl 4 (h:=zt 5 (h:=?_))))));refine zr 6 λK hK=>?_;go_simp;refine T3.mono ?_;rintro e w5 ⟨rfl,r5,o5⟩;have o5:ag (·=gR) w4 w5:=o5.im;obtain⟨BL5,uY⟩:=dz (o5.cY (aD r4.2) BL4 zj) (ib.trans (o5.cW (B:=w.heap.size) ib.size (λk hk e=>by have:=TZ.out;omega)));clear o5;go_wp2_with fail;refine hK.out _ _ ⟨λ_=>BL5.cell 1,trivial⟩ (λaz=>?_);clear hK K;refine zt 7 (h:=?_);refine zr 8 λK hK=>?_;go_simp;obtain⟨w6,nC⟩:=ze (w5.alloc (.cells #[.int .i64 (a0:Nat),.nilIface] 265));have B6:Hid (Below w5.heap.size w5 w6):=by rw[Hid,<-nC];exact za _ _
 obtain⟨BL6,R6,zv,A6⟩:=yx (BL5.aa B6 BL5.lt) (r5.aa B6) (uY.trans (B6.mono uY.size)) ((pY.nil w5 w.heap.size ats).snoc (k:=0) (a:=a0) rfl ha0 nC.symm uY.size);obtain⟨r0,Y0⟩:=ze w5.heap.size;rw[nC,Y0];rw[Y0]at A6;simp only[aX]at A6;refine hK.out _ _ ⟨λ_=>BL6.cell 1,trivial⟩ (λaz=>?_);clear hK K;refine zr 9 λK hK=>?_;go_simp;have S7:=zi (Pc w6 r0);obtain⟨w7,MI⟩:=ze (w6.alloc (.cells #[.pointer (some ⟨r0,0,none⟩)] 160));have B7:Hid (Below w6.heap.size w6 w7):=by rw[Hid,<-MI];exact za _ _
 obtain⟨BL7,R7,HB7,A7⟩:=yx (BL6.aa B7 BL6.lt) (R6.aa B7) (zv.trans (B7.mono zv.size)) (A6.aa B7);obtain⟨g7,Uf⟩:=ze w6.heap.size;rw[MI,Uf]at S7;rw[MI,Uf];refine hK.out _ _ ⟨λ_=>BL7.cell 1,trivial⟩ (λaz=>?_);clear hK K;refine zr 10 λK hK=>?_;refine fi Tryz.ou rfl (.tmp 67) (.tmp 72) rfl rfl (Rw.nil w7 w.heap.size) (some ⟨g7,0,none⟩) 1 1 (aS [r0]) rfl rfl S7 (eM _) zo HB7.size ?_;intro v8 w8 o8 m8;have K8:bR (λk=>(Value.slice none 0 0).ownBlock=some k) w7 []:=λ_ h=>by cases h
 have BL8:=zi (m8.only.cY K8 BL7 zu);have R8:Hid (Pa w8 gR (vP ks ats tail 0) false):=⟨R7.1,m8.only.cY K8 R7.2 zu⟩;obtain⟨A8,HB8⟩:=dz (A7.only m8.only K8 zu) (HB7.trans ((m8.sV (Rw.nil (e:=160) (s:=1) w7 w.heap.size) HB7.size).mono (ai _)));have W8:Hid (Rw 160 1 w8 w.heap.size v8 1 (aS [r0])):=by have:=o8;simpa [Hid] using this
 clear o8 m8 K8;obtain⟨A8',afI,hv8,_⟩:=W8.eo;subst hv8;refine hK.out _ _ ⟨λ_=>BL8.cell 1,trivial⟩ (λaz=>?_);clear hK K;refine zt 11 (h:=zt 12 (h:=?_));refine zr 13 λK hK=>?_;have lf8:=BL8.frozen 1;have l8:=BL8.cell 1;simp only[aL,au]at l8;go_simp;obtain⟨w9,En⟩:=ze (w8.setCell ⟨gI,1,none⟩ (.slice A8' 1 afI));have O9:Hid (ag (·=gI) w8 w9):=by rw[Hid,<-En];exact(ag.refl (·=gI) w8).zs 1
 have BL9:Hid (ay w9 gI 383 [.slice none 0 0,.slice A8' 1 afI]):=by rw[Hid,<-En];exact BL8.bw 1 _
 have R9:Hid (Pa w9 gR (vP ks ats tail 0) false):=⟨R8.1,O9.cY (aD BL8) R8.2 zj⟩;obtain⟨W9,A9⟩:=dz (W8.iC O9 (aD BL8) zj) (A8.only O9 (aD BL8) zj);have Py:Hid (Below w.heap.size w w9):=HB8.trans (O9.cW (B:=w.heap.size) HB8.size (λj hj e=>by have:=HGI.out;have:=eY.size;have:=aI.size;omega));rw[En];refine hK.out _ _ ⟨zk zp,trivial⟩ (λaz=>?_);clear hK K;(try simp only[Act.put,zq1,zq2,zP,zq4,zq5,RR]);refine bh zp ?_ _;clear az;clear l0 l1 lf l8 lf8 En nC MI Y0 Uf;go_wp2_with fail
 go_loopw [8] (λi wr=>∃k:Nat,k<=n/\i= .int .i64 ((n:Int)-k)/\Hid (Pa wr gR (vP ks ats tail k) false)/\Hid (Below w.heap.size w wr)/\
  ∃Ak ck Ar cr rs,Hid (ay wr gI 383 [.slice Ak k ck,.slice Ar (k+1) cr])/\Hid (Rw 9 1 wr w.heap.size (.slice Ak k ck) k (bo (ks.take k)))/\
   Hid (Rw 160 1 wr w.heap.size (.slice Ar (k+1) cr) (k+1) (aS rs))/\Hid (rs.length=k+1)/\Hid (pY wr w.heap.size rs ats)) (λi _=>(intOf i).toNat)
 case atStart=>exact⟨0,aM _,zu,R9,Py,none,0,_,_,[r0],BL9,Rw.nil _ _,W9,rfl,A9⟩
 case round=>
  obtain⟨k,yX,rfl,HR,HM,Ak,ck,Ar,cr,rs,HL,HK,HRR,Dx,HA⟩:=hrel;by_cases pX:k<n
  ·have q1:(0:Int)<(n:Int)-k:=zo;have q2:=aQ q1;obtain⟨x,hx⟩:∃p,ks[k]?=some p:=⟨_,aF (by rw[hn];exact pX)⟩;obtain⟨a,ha⟩:∃p,ats[k+1]?=some p:=⟨_,aF (by rw[fK];omega)⟩;have hxb:=hp x (bO hx);have VP:=yT a (bO ha);have jy:=adM tail hx ha;obtain⟨kn,EM⟩:=ze x.length;rw[EM]at hxb jy;obtain⟨nx,ED⟩:=ze (vP ks ats tail (k+1));rw[ED]at jy;rw[jy]at HR;have r1:=HR.2.cell 1;have i0:=HL.cell 0;have i1:=HL.cell 1;have f0:=HL.frozen 0;simp only[aL,au]at r1 i0 i1;have I0:Hid (wr.drew.cell? ⟨gI,0,none⟩=some (.slice Ak k ck)):=i0;have T1:=pD gR 1 _ false wr.drew HR zu zo;rw[rF _ hxb]at T1;have T1:=zi T1;clear jy;go_wp2_with fail;refine aN 10 (λW=>W.cell? ⟨gI,0,none⟩=some (.slice Ak k ck)) (λ_=>True) zp I0 trivial (λaz=>?_);refine zt 0 (h:=zt 1 (h:=zt 2 (h:=zt 3 (h:=zl 4 (h:=zt 5 (h:=zt 6 (h:=?_)))))));refine zr 7 λK hK=>?_;go_simp;refine T1.mono ?_;rintro e z1 ⟨rfl,y1,o1⟩;have o1:ag (·=gR) wr z1:=o1.im;have T2:=qx gR kn _ false z1 y1 (by rw[jg,jD,ax,EM];omega);rw[jg,jD,ik EM,ke EM]at T2;obtain⟨T2,KR⟩:=dz T2 (aD HR.2);have Z1:=zi (o1.cY KR HL zj);clear y1;go_wp2_with fail;refine hK.out _ _ ⟨λ_=>Z1.cell 0,trivial⟩ (λaz=>?_);clear hK K;refine zr 8 λK hK=>?_;go_simp;refine T2.mono ?_;rintro e z2 ⟨rfl,y2,o2⟩;have O2:=zi (o1.aE o2);obtain⟨Z2,K2,R2,A2⟩:=yx (O2.cY KR HL zj) (HK.iC O2 KR zj) (HRR.iC O2 KR zj) (HA.only O2 KR zj);have M2:Hid (Below w.heap.size w z2):=HM.trans (O2.cW (B:=w.heap.size) HM.size (λj hj e=>by have:=TZ.out;omega));clear o2;go_wp2_with fail;refine hK.out _ _ ⟨λ_=>Z2.cell 0,trivial⟩ (λaz=>?_);clear hK K;refine zr 9 λK hK=>?_;go_simp;have S3:=zi (DJ z2 x);obtain⟨z3,hz3⟩:=ze (z2.alloc (.cells #[.string (ar x)] 9));have B3:Hid (Below z2.heap.size z2 z3):=by rw[Hid,<-hz3];exact za _ _
   obtain⟨Z3,Y3,K3,R3',A3⟩:=OW (Z2.aa B3 Z2.lt) (y2.aa B3) (K2.aa B3) (R2.aa B3) (A2.aa B3);have M3:Hid (Below w.heap.size w z3):=M2.trans (B3.mono M2.size);obtain⟨g3,Cr⟩:=ze z2.heap.size;rw[hz3,Cr]at S3;rw[hz3,Cr];refine hK.out _ _ ⟨λ_=>Z3.cell 0,trivial⟩ (λaz=>?_);clear hK K;refine zr 10 λK hK=>?_;refine fi Tryz.ji rfl (.tmp 91) (.tmp 96) rfl rfl K3 (some ⟨g3,0,none⟩) 1 1 (bo [x]) rfl rfl S3 (fU _) zo M3.size ?_;intro v4 z4 o4 m4;have Z4:=zi (m4.only.cY K3.kinds Z3 zj);have Y4:Hid (Pa z4 gR (Pl.be 4 a++nx) false):=⟨Y3.1,m4.only.cY K3.kinds Y3.2 zj⟩;obtain⟨R4',A4⟩:=dz (R3'.iC m4.only K3.kinds zj) (A3.only m4.only K3.kinds zj);have M4:Hid (Below w.heap.size w z4):=M3.trans ((m4.sV K3 M3.size).mono (ai _));have K4:Hid (Rw 9 1 z4 w.heap.size v4 (k+1) (bo (ks.take (k+1)))):=by
    have e:bo (ks.take (k+1))=bo (ks.take k)++bo [x]:=by unfold bo;rw[eK,hx,gH];rfl
    rw[Hid,e];exact o4
   clear o4 m4;obtain⟨A4',qi,Fh,_⟩:=K4.eo;subst Fh;refine hK.out _ _ ⟨λ_=>Z4.cell 0,trivial⟩ (λaz=>?_);clear hK K;refine zt 11 (h:=zt 12 (h:=?_));refine zr 13 λK hK=>?_;have zf4:=Z4.frozen 0;have zc4:=Z4.cell 0;simp only[au]at zc4;go_simp;obtain⟨z5,hz5⟩:=ze (z4.setCell ⟨gI,0,none⟩ (.slice A4' (k+1) qi));have O5:Hid (ag (·=gI) z4 z5):=by rw[Hid,<-hz5];exact(ag.refl (·=gI) z4).zs 0
   have Z5:Hid (ay z5 gI 383 [.slice A4' (k+1) qi,.slice Ar (k+1) cr]):=by rw[Hid,<-hz5];exact Z4.bw 0 _
   have Y5:Hid (Pa z5 gR (Pl.be 4 a++nx) false):=⟨Y4.1,O5.cY (aD Z4) Y4.2 zj⟩;obtain⟨K5,R5',A5⟩:=kt (K4.iC O5 (aD Z4) zj) (R4'.iC O5 (aD Z4) zj) (A4.only O5 (aD Z4) zj);have M5:Hid (Below w.heap.size w z5):=M4.trans (O5.cW (B:=w.heap.size) M4.size (λj hj e=>by have:=HGI.out;have:=eY.size;have:=aI.size;omega));rw[hz5];refine hK.out _ _ ⟨zk zp,trivial⟩ (λaz=>?_);clear hK K;(try simp only[Act.put,zq1,zq2,zP,zq4,zq5,RR]);refine bh zp ?_ _;clear az;clear r1 i0 i1 f0 zf4 zc4 q2 hz5 hz3 Cr;have i1:=Z5.cell 1;have f1:=Z5.frozen 1;simp only[aL,au]at i1;have I1:Hid (z5.drew.cell? ⟨gI,1,none⟩=some (.slice Ar (k+1) cr)):=i1;have T6:=pD gR 4 (Pl.be 4 a++nx) false z5.drew Y5 (by simp[Pl.aG]) zo;rw[xN a _ rfl zo,MR]at T6;have T6:=zi T6;go_wp2_with fail;refine aN 10 (λW=>W.cell? ⟨gI,1,none⟩=some (.slice Ar (k+1) cr)) (λ_=>True) zp I1 trivial (λaz=>?_);refine zt 0 (h:=zt 1 (h:=zt 2 (h:=zt 3 (h:=zl 4 (h:=zt 5 (h:=?_))))));refine zr 6 λK hK=>?_;go_simp;refine T6.mono ?_;rintro e z6 ⟨rfl,y6,o6⟩;have o6:ag (·=gR) z5 z6:=o6.im;have KR5:=zi (aD Y5.2);obtain⟨Z6,K6,R6',A6'⟩:=yx (o6.cY KR5 Z5 zj) (K5.iC o6 KR5 zj) (R5'.iC o6 KR5 zj) (A5.only o6 KR5 zj);have M6:Hid (Below w.heap.size w z6):=M5.trans (o6.cW (B:=w.heap.size) M5.size (λj hj e=>by have:=TZ.out;omega));clear o6;go_wp2_with fail;refine hK.out _ _ ⟨λ_=>Z6.cell 1,trivial⟩ (λaz=>?_);clear hK K;refine zt 7 (h:=?_);refine zr 8 λK hK=>?_;go_simp;obtain⟨z7,hz7⟩:=ze (z6.alloc (.cells #[.int .i64 (a:Nat),.nilIface] 265));have B7':Hid (Below z6.heap.size z6 z7):=by rw[Hid,<-hz7];exact za _ _
   obtain⟨Z7,Y7,K7,R7',M7,A7'⟩:=zh6 (Z6.aa B7' Z6.lt) (y6.aa B7') (K6.aa B7') (R6'.aa B7') (M6.trans (B7'.mono M6.size)) (A6'.snoc Dx ha hz7.symm M6.size);obtain⟨rr,TX⟩:=ze z6.heap.size;rw[hz7,TX];rw[TX]at A7';refine hK.out _ _ ⟨λ_=>Z7.cell 1,trivial⟩ (λaz=>?_);clear hK K;refine zr 9 λK hK=>?_;go_simp;have S8:=zi (Pc z7 rr);obtain⟨z8,hz8⟩:=ze (z7.alloc (.cells #[.pointer (some ⟨rr,0,none⟩)] 160));have B8':Hid (Below z7.heap.size z7 z8):=by rw[Hid,<-hz8];exact za _ _
   obtain⟨Z8,Y8,K8,R8',M8,asi⟩:=zh6 (Z7.aa B8' Z7.lt) (Y7.aa B8') (K7.aa B8') (R7'.aa B8') (M7.trans (B8'.mono M7.size)) (A7'.aa B8');obtain⟨g8,hg8⟩:=ze z7.heap.size;rw[hz8,hg8]at S8;rw[hz8,hg8];refine hK.out _ _ ⟨λ_=>Z8.cell 1,trivial⟩ (λaz=>?_);clear hK K;refine zr 10 λK hK=>?_;refine fi Tryz.ou rfl (.tmp 104) (.tmp 109) rfl rfl R8' (some ⟨g8,0,none⟩) 1 1 (aS [rr]) rfl rfl S8 (eM _) zo M8.size ?_;intro v9 z9 o9 m9;have Z9:=zi (m9.only.cY R8'.kinds Z8 zj);have Y9:Hid (Pa z9 gR nx false):=⟨Y8.1,m9.only.cY R8'.kinds Y8.2 zj⟩;obtain⟨K9,A9'⟩:=dz (K8.iC m9.only R8'.kinds zj) (asi.only m9.only R8'.kinds zj);have M9:Hid (Below w.heap.size w z9):=M8.trans ((m9.sV R8' M8.size).mono (ai _));have R9':Hid (Rw 160 1 z9 w.heap.size v9 (k+1+1) (aS (rs++ [rr]))):=by
    have e:aS (rs++ [rr])=aS rs++aS [rr]:=by unfold aS;rw[gH]
    rw[Hid,e];exact o9
   clear o9 m9;obtain⟨A9c,ahl,hv9,_⟩:=R9'.eo;subst hv9;refine hK.out _ _ ⟨λ_=>Z9.cell 1,trivial⟩ (λaz=>?_);clear hK K;refine zt 11 (h:=zt 12 (h:=?_));refine zr 13 λK hK=>?_;have zf9:=Z9.frozen 1;have zc9:=Z9.cell 1;simp only[aL,au]at zc9;go_simp;obtain⟨zx,hzx⟩:=ze (z9.setCell ⟨gI,1,none⟩ (.slice A9c (k+1+1) ahl));have Ox:Hid (ag (·=gI) z9 zx):=by rw[Hid,<-hzx];exact(ag.refl (·=gI) z9).zs 1
   have Zx:Hid (ay zx gI 383 [.slice A4' (k+1) qi,.slice A9c (k+1+1) ahl]):=by rw[Hid,<-hzx];exact Z9.bw 1 _
   have Yx:Hid (Pa zx gR nx false):=⟨Y9.1,Ox.cY (aD Z9) Y9.2 zj⟩;obtain⟨Kx,Rx,Ax⟩:=kt (K9.iC Ox (aD Z9) zj) (R9'.iC Ox (aD Z9) zj) (A9'.only Ox (aD Z9) zj);have Mx:Hid (Below w.heap.size w zx):=M9.trans (Ox.cW (B:=w.heap.size) M9.size (λj hj e=>by have:=HGI.out;have:=eY.size;have:=aI.size;omega));have aqI:Hid ((rs++ [rr]).length=k+1+1):=by rw[Hid,ax,Dx.out];rfl
   rw[hzx];refine hK.out _ _ ⟨zk zp,trivial⟩ (λaz=>?_);clear hK K;(try simp only[Act.put,zq1,zq2,zP,zq4,zq5,RR]);refine bh zp ?_ _;clear az;clear i1 f1 zf9 zc9 hzx hz7 hz8 hg8 TX;go_wp2_with fail;exact⟨⟨k+1,zo,by go_num,(by rw[ED];exact Yx),Mx,_,_,_,_,rs++ [rr],Zx,Kx,Rx,aqI,Ax⟩,by simp[intOf];omega⟩
  ·obtain rfl:k=n:=zo;have q1:¬(0:Int)<(k:Int)-k:=zo;have q2:=aH q1;have r1:=HR.2.cell 1;simp only[aL,au]at r1;obtain⟨rX,ma⟩:k<=ck/\dn wr Ak (bo (ks.take k)) 9:=by obtain⟨_,_,e1,h1,h2,_⟩:=HK.eo;cases e1;exact⟨h1,h2⟩
   obtain⟨lC,nX⟩:k+1<=cr/\dn wr Ar (aS rs) 160:=by obtain⟨_,_,e1,h1,h2,_⟩:=HRR.eo;cases e1;exact⟨h1,h2⟩
   have HIA:Hid (dZ wr gI ks rs):=by
    refine⟨Ak,ck,Ar,cr,?_,?_,?_,?_,nX⟩
    ·rw[hn,Dx.out];exact HL
    ·rw[hn];exact rX
    ·rw[Dx.out];exact lC
    ·have e:=gN (l:=ks);rw[hn]at e;rw[e]at ma;exact ma
   have HGE:Hid (w.heap.size<=gI):=by have:=HGI.out;have:=eY.size;have:=aI.size;rw[Hid];omega
   clear rX lC ma nX;go_wp2_with fail;go_ret;exact⟨gI,rs,rfl,HIA,by rw[Dx.out,fK],HA,HGE,HM⟩
namespace Pl
variable {d:Dk} {l:Lg}
variable (e:Nat) (s:List jl) (aW:Int) (j first n:Nat)
theorem kU(h:d.aW<0):d.alive=true:=by unfold Dk.alive;simp[h]
theorem Lk(h:d.aW<0)(c:Ch):d.change c={d with aV:=c.on d.aV}:=by have h0:¬0<d.aW:=zo;simp[Dk.change,Dk.tick,kU h,h0]
theorem adk(h:d.aW<0)(l:List Ch):d.run l=({d with aV:=l.foldl (λs c=>c.on s) d.aV},true):=by
 induction l generalizing d with
 |nil=>rfl
 |cons c r ih=>rw[Dk.iW,kU h,ah rfl,Lk h,ih (by exact h)];rfl
theorem yk(c:Ch)(l:List jl):(c.on l).length=l.length:=by cases c<;>simp[Ch.on]
theorem qg(l:List Ch):∀s:List jl,(l.foldl (λs c=>c.on s) s).length=s.length:=by
 induction l with
 |nil=>simp
 |cons c r ih=>intro s;rw[qT,ih,yk]
def Sound:Prop:=∀x∈s,x.now.length=256/\x.broken=false
def Ch.fits:Ch->Prop
 | .wr _ t=>t.length<=256
 | .sy=>True
theorem yr(s:jl):s.flush.now=s.now/\s.flush.broken=s.broken:=by
 unfold jl.flush
 grind
theorem DT{s:List jl}(h:Sound s)(c:Ch)(hc:c.fits):Sound (c.on s):=by
 intro x hx;cases c with
 |wr i t=>
  obtain⟨k,hk⟩:=uZ hx;simp only[Ch.on,BM]at hk;cases hs:s[k]? with
  |none=>grind
  |some y=>
   rw[hs]at hk;by_cases hik:i=k
   ·simp[hik]at hk;subst hk;have hc':t.length<=256:=hc;exact⟨by simp[jl.put,gO];omega,rfl⟩
   ·simp[hik]at hk;subst hk;exact h y zw
 |sy=>obtain⟨y,hy,rfl⟩:=iE.1 hx;rw[(yr y).1,(yr y).2];exact h y hy
theorem Um{l:List Ch}:∀{s:List jl},Sound s->(∀c∈l,c.fits)->Sound (l.foldl (λs c=>c.on s) s):=by
 induction l with
 |nil=>simp
 |cons c r ih=>intro s h hc;exact ih (DT h c zw) zS
theorem OG(i j:Nat)(t:List UInt8)(hi:i<s.length):(Dk.mk (Ch.on (.wr i t) s) aW).look j=if i=j then some (t++gO (256-t.length))else(Dk.mk s aW).look j:=by
 unfold Dk.look;simp only[Ch.on,BM];by_cases h:i=j
 ·subst h;rw[aF hi];simp[jl.put]
 grind
theorem Np:(Dk.mk (Ch.on .sy s) aW).look j=(Dk.mk s aW).look j:=by
 unfold Dk.look;simp only[Ch.on,vj];cases s[j]? with
 |none=>rfl
 |some x=>simp[(yr x).1,(yr x).2]
structure su(d:Dk)(l:Lg):Prop where
 live:d.aW<0
 sound:Sound d.aV
 aA:l.first+2+l.data<=d.aV.length
 data:2<=l.data/\l.data<4294967296
 ep:1<=l.eE/\l.eE<256^8
 slots:max (gw (d.look l.first)) (gw (d.look (l.first+1)))=l.eE
 next:l.next=(flat l.all).length
 fit:l.next<=l.data
 small:∀p∈l.all,1<=p.length/\p.length<=2000
 laid:∀i m c,(flat l.all)[i]?=some (m,c)->d.look (l.first+2+i)=some (dh l.eE i m c++gO (256-(dh l.eE i m c).length))
 clean:∀i s,l.next<=i->i<l.data->d.look (l.first+2+i)=some s->jQ l.eE s=false
 old:∀i s,i<l.data->d.look (l.first+2+i)=some s->s.headD 0=76->num ((s.drop 1).take 8)<=l.eE
 bad:l.bad=false
theorem Zb(f:Nat->Option (List UInt8))(a n:Nat)(h:a<=n):(List.range n).map f=(List.range a).map f++(List.range (n-a)).map (λi=>f (a+i)):=by
 conv=>lhs;rw[show n=a+(n-a) by omega,List.range_add]
 simp
theorem abh(l:List (Bool×List UInt8)):∀(j i:Nat) (m:Bool) (c:List UInt8),l[i]?=some (m,c)->(texts e j l)[i]?=some (some (dh e (j+i) m c++gO (256-(dh e (j+i) m c).length))):=by
 induction l with
 |nil=>simp
 |cons a r ih=>
  intro j i m c h;obtain⟨m',c'⟩:=a
  match i with
  |0=>simp at h;obtain⟨rfl,rfl⟩:=h;rfl
  |i+1=>rw[texts,aL,ih (j+1) i m c zw,show j+1+i=j+(i+1) by omega]
theorem su.reads(h:su d l):(List.range l.data).map (λi=>d.look (l.first+2+i))=texts l.eE 0 (flat l.all)++(List.range (l.data-l.next)).map (λi=>d.look (l.first+2+(l.next+i))):=by
 rw[Zb _ l.next l.data h.fit];congr 1;apply AU;intro i;by_cases hi:i<l.next
 ·have hl:i<(flat l.all).length:=by rw[<-h.next];exact hi
  rcases hp:(flat l.all)[i]with⟨m,c⟩;have hg:(flat l.all)[i]?=some (m,c):=zw;rw[abh _ _ 0 i m c hg,vj,List.getElem?_range hi];simp only[AY,bZ];rw[h.laid i m c hg]
 ·rw[oK zw,oK (by rw[Ou,<-h.next];omega)]
theorem su.anU(h:su d l):scan l.eE ((List.range l.data).map (λi=>d.look (l.first+2+i))) 0 [] [] 0=(l.all,l.next):=by
 have hd:=h.data;have hf:=h.fit;rw[h.reads,acP l.eE h.ep.2 _ l.all 0 [] (by rw[<-h.next];omega) (λp hp=>(h.small p hp).2),aak,aX,bZ,<-h.next];intro s hs;rw[vj]at hs;by_cases hz:0<l.data-l.next
 ·rw[List.getElem?_range hz]at hs;simp at hs;exact h.clean l.next s zo zo hs
 grind
theorem Q7(z:List UInt8)(h:e<256^8):gw (some (gZ e++z))=e:=by unfold gZ gw;simp only[eu];rw[ik (aG 8 e),kq 8 e h]
theorem aas:∀(s:List jl),first+n<=s.length->∀j,
 (Dk.mk (((List.range n).map (λi=>Ch.wr (first+i) [])).foldl (λs c=>c.on s) s) aW).look j=if first<=j/\j<first+n then some (gO 256)else(Dk.mk s aW).look j:=by
 induction n with
 |zero=>grind
 |succ n ih=>
  intro s hs j;rw[jK,gH,rz];simp only[jf,qL,qT,List.foldl_nil];rw[OG _ _ _ _ _ (by rw[qg];omega),ih s zo j];by_cases h1:first+n=j
  ·rw[ah h1,ah zo];rfl
  ·rw[aj h1]
   grind
theorem UL:(gO 256).headD 0=0:=rfl
theorem aag(live:d.aW<0)(sound:Sound d.aV)(first n:Nat)(hn:4<=n)(mV:n<4294967296)(hr:first+n<=d.aV.length):
 ∃d',jF d first n=(d',0)/\d'.aV.length=d.aV.length/\su d' ⟨first,n-2,1,0,[],false⟩:=by
 have sB:∀j,(Dk.mk (Ch.on .sy (Ch.on (.wr (first+1) (gZ 1)) (Ch.on .sy (((List.range n).map (λi=>Ch.wr (first+i) [])).foldl (λs c=>c.on s) d.aV)))) d.aW).look j=
  if first+1=j then some (gZ 1++gO (256-(gZ 1).length))else if first<=j/\j<first+n then some (gO 256)else d.look j:=by
  intro j;rw[Np,OG _ _ _ _ _ (by rw[yk,qg];omega),Np,aas _ _ _ _ hr]
 refine⟨{d with aV:=Ch.on .sy (Ch.on (.wr (first+1) (gZ 1)) (Ch.on .sy (((List.range n).map (λi=>Ch.wr (first+i) [])).foldl (λs c=>c.on s) d.aV)))},?_,?_,⟨live,?_,?_,?_,?_,?_,rfl,aM _,zu,?_,?_,?_,rfl⟩⟩
 ·unfold jF mP;rw[adk live,rz];rfl
 ·simp only[yk,qg]
 ·refine DT (DT (DT (Um sound ?_) .sy trivial) (.wr _ (gZ 1)) (by simp[Ch.fits,gZ,aG])) .sy trivial;intro c hc;obtain⟨i,_,rfl⟩:=iE.1 hc;simp[Ch.fits]
 ·simp only[yk,qg];omega
 ·grind
 ·simp
 ·show max (gw ((Dk.mk _ d.aW).look first)) (gw ((Dk.mk _ d.aW).look (first+1)))=1;rw[sB,sB,aj zo,ah zo,ah rfl,Q7 1 _ zj];decide
 ·intro i m c hi;simp[flat]at hi
 ·intro i s _ hd hs;change i<n-2 at hd;change (Dk.mk _ d.aW).look (first+2+i)=_ at hs;rw[sB,aj zo,ah zo]at hs;simp at hs;subst hs;show jQ 1 (gO 256)=false;decide
 ·intro i s hd hs hh;change i<n-2 at hd;change (Dk.mk _ d.aW).look (first+2+i)=_ at hs;rw[sB,aj zo,ah zo]at hs;simp at hs;subst hs;rw[UL]at hh;cases hh
theorem aaV(n:Int):Sound (Dk.new n).aV:=by intro x hx;have:=uR hx;subst this;exact⟨j9,rfl⟩
end Pl
variable {w w':World} {gl g:Nat} {v va:Value} {vs:List Value} {d:Pl.Dk} {rd:Int} {l:Pl.Lg} {r:Pl.Lg×Pl.Dk×Nat}
variable (aq b:Nat) (used:Bool) (P:Nat->Pl.Dk->Pl.Lg->Prop)
structure dB(w:World)(gl g:Nat)(v va:Value)(vs:List Value)(d:Pl.Dk)(rd:Int)(l:Pl.Lg):Prop where
 gq:aJ w g v d rd
 cells:dW w gl g va l
 rows:pR w va vs l.all
def uq(gl g:Nat)(v va:Value)(k:Nat):Prop:=lF gl g v k\/va.ownBlock=some k
def nG:List TypeId:=[108,190,252,29]
theorem dB.kinds(h:dB w gl g v va vs d rd l):bR (uq gl g v va) w nG:=by
 rintro k (hk|hk)
 ·obtain⟨t,h1,h2⟩:=CW h.gq h.cells k hk;refine⟨t,?_,h2⟩;simp only[cV,je,iU,nG]at h1|-
  grind
 ·exact⟨_,by simp[nG],dc h.rows.own hk⟩
theorem pR.aa{ls:List (List UInt8)}(h:pR w va vs ls)(hb:dP w w'):pR w' va vs ls:=
 h.only (F:=λ_=>False) (ts:=[]) (ag.ae hb _) (λ_ h=>h.elim) zu zu
theorem dB.aa{w w':World}{gl g:Nat}{v va:Value}{vs:List Value}{d:Pl.Dk}{rd:Int}{l:Pl.Lg}(h:dB w gl g v va vs d rd l)(hb:dP w w'):dB w' gl g v va vs d rd l:=
 ⟨h.gq.aa hb,h.cells.aa hb,h.rows.aa hb⟩
theorem dB.lt{w:World}{gl g:Nat}{v va:Value}{vs:List Value}{d:Pl.Dk}{rd:Int}{l:Pl.Lg}(h:dB w gl g v va vs d rd l):∀k,uq gl g v va k->k<w.heap.size:=by
 rintro k ((hk|rfl)|hk)
 ·exact h.gq.lt k hk
 ·exact h.cells.aC.lt
 ·exact(h.rows.own.lt k hk).2
theorem aJ.JE{F:Nat->Prop}{ts:List TypeId}(h:aJ w g v d rd)(ho:ag F w w')(hF:bR F w ts)(h1:108∉ts)(h2:190∉ts):aJ w' g v d rd:=by obtain⟨wr,sy,hb⟩:=h.aC;exact⟨h.pU,h.sized,h.aW,h.mK,ho.F9 hF h.own h2,wr,sy,ho.cY hF hb h1⟩
theorem dB.JE{F:Nat->Prop}{w w':World}{gl g:Nat}{v va:Value}{vs:List Value}{d:Pl.Dk}{rd:Int}{l:Pl.Lg}{ts:List TypeId}(h:dB w gl g v va vs d rd l)(ho:ag F w w')(hF:bR F w ts)
 (h1:108∉ts) (h2:190∉ts) (h3:252∉ts) (h4:29∉ts) (h5:5∉ts):dB w' gl g v va vs d rd l:=
 ⟨h.gq.JE ho hF h1 h2,h.cells.only ho hF h3,h.rows.only ho hF h4 h5⟩
def Sep(w:World)(va iw:Value):Prop:=∀b,iw.ownBlock=some b->va.ownBlock=some b\/w.heap.size<=b
theorem Sep.refl(w:World)(va:Value):Sep w va va:=λ_ h=> .inl h
theorem QT{b b' n n':Nat}{e e':TypeId}{xs xs':List Value}(h:w.ownsRow b e 1 v n xs)(h':w.ownsRow b' e' 1 v n' xs'):xs=xs':=by
 rcases h.2 with⟨h0,hn⟩|⟨g,aB,cur,hv,_,hg,_,_,_,ht⟩
 ·rcases h'.2 with⟨_,GH⟩|⟨g',cap',asm,hv',_⟩
  ·have h1:=h.1;have h2:=h'.1
   grind
  grind
 ·rcases h'.2 with⟨h0,_⟩|⟨g',cap',asm,hv',_,hg',_,_,_,Ek⟩
  ·grind
  grind
def GA(w:World)(va:Value)(gj:List Value):Prop:=∀u∈gj,∀x,u.ownBlock=some x->x<w.heap.size->∀n vs,w.ownsRow 0 29 1 va n vs->u∈vs
theorem GA.refl{w:World}{va:Value}{vs:List Value}{n:Nat}(h:w.ownsRow 0 29 1 va n vs):GA w va vs:=λu hu x _ _ n' gj h'=>by rw[QT h' h];exact hu
theorem GA.back{gj:List Value}(h:GA w' va gj)(hb:dP w w'):GA w va gj:=λu hu x hx hl n vs ho=>h u hu x hx (aK hl hb.size) n vs (fm ho hb)
def Wx(gl g:Nat)(v va:Value)(rd:Int)(w:World)(e:Ending)(w':World):Prop:=
 ∃k iw gj d' l',P k d' l'/\e= .returned (oT k)/\dB w' gl g v iw gj d' rd {l' with bad:=(k==3)}/\Sep w va iw/\GA w va gj/\ag (uq gl g v va) w w'
def aeA(gl g:Nat)(v va:Value)(rd:Int)(w:World)(e:Ending)(w':World):Prop:=
 ∃k iw gj d' l',aeJ k e/\l'.bad=false/\P k d' l'/\dB w' gl g v iw gj d' rd l'/\Sep w va iw/\GA w va gj/\ag (uq gl g v va) w w'
theorem akq(K:FuncId)(cg:Array Value)(gl g:Nat)(v va:Value)(vs:List Value)(d:Pl.Dk)(rd:Int)(l:Pl.Lg)(P:Nat->Pl.Dk->Pl.Lg->Prop)(w w1:World)(h:dB w gl g v va vs d rd l)(aI:dP w w1)(jO:l.bad=false)
 (hK:∀W,(callFunc K cg).run Tryz.prog W= .ok (.enter K cg) W)
 (hc:∀W,dP w1 W->bG K cg W (aeA P gl g v va rd W)):
 bG 205 #[.pointer (some ⟨gl,0,none⟩),.func (.func K) #[] cg] w1 (Wx P gl g v va rd w):=by
 have h1:=h.aa aI;have ja:Below w1.heap.size w1 (w1.alloc (.cells #[.nilIface] 73)):=(ak _ _).alloc zo _;have h2:=h1.aa ja;have BE:=ay.new w1 73 [.nilIface];refine(aca gl g va l K cg w1 h1.cells jO (λk w'=>ay w' w1.heap.size 73 [.nilIface]/\∃iw gj d' l',l'.bad=false/\P k d' l'/\dB w' gl g v iw gj d' rd l'/\Sep w va iw/\GA w va gj/\ag (uq gl g v va) w w') hK ?_ ?_).mono ?_
 ·rintro k w' ⟨_,iw,gj,d',l',XM,_,hst,_,_,_⟩;have:=hst.cells.aC;unfold G9 at this
  grind
 ·refine(hc _ ja).mono ?_;rintro e w' ⟨k,iw,gj,d',l',hk,XM,hp,hst,yN,hrs,ho⟩;refine⟨ho.cY h2.kinds BE zj,k,hk,ho.cY h2.kinds BE zj,iw,gj,d',l',XM,hp,hst,λb hb=>?_,(hrs.back ja).back aI,((ag.ae aI _).aa ja).aE ho⟩;rcases yN b hb with h'|h'
  ·grind
  ·exact .inr (ao aI.size (ao ja.size h'))
 ·rintro e sL ⟨k,w',⟨hBE,iw,gj,d',l',XM,hp,hst,yN,hrs,ho⟩,rfl,pQ,EU⟩;have ma:=aI.size;have hne:∀k,uq gl g v va k->k<w1.heap.size:=h1.lt;refine⟨k,iw,gj,d',l',hp,rfl,⟨?_,⟨EU _ _ _ _ _ _ _ hst.cells.aC,hst.cells.small⟩,?_⟩,yN,hrs,ho.trans pQ (λx hx e=>?_)⟩
  ·refine hst.gq.only pQ (λx hx e=>?_);rcases e with e|e
   ·have:=hne x (.inl (.inl hx));omega
   ·obtain⟨t,h5,h6⟩:=hst.gq.kinds x hx;have:=h6.dv (e▸hst.cells.aC.dV)
    grind
  ·have hq:∀{aq n size:Nat} {e:TypeId} {u:Value} {xs:List Value},w'.ownsRow aq e size u n xs->e≠252->e≠73->sL.ownsRow aq e size u n xs:=by
    intro aq n size e u xs hu h7 h8;refine pQ.own hu (λx hx e=>?_);rcases e with rfl|rfl
    ·exact h8 ((dc hu hx).dv hBE.dV)
    ·exact h7 ((dc hu hx).dv hst.cells.aC.dV)
   exact⟨hq hst.rows.own zj zj,λi u x hu hx=>hq (hst.rows.each i u x hu hx) zj zj⟩
  ·rcases e with rfl|rfl
   ·omega
   ·exact .inl (.inr rfl)
def xZ(r:Pl.Lg×Pl.Dk×Nat)(gl g:Nat)(v va:Value)(rd:Int)(w:World)(e:Ending)(w':World):Prop:=
 e= .returned (oT r.2.2)/\∃iw gj,dB w' gl g v iw gj r.2.1 rd r.1/\Sep w va iw/\GA w va gj/\ag (uq gl g v va) w w'
theorem Wx.out{P:Nat->Pl.Dk->Pl.Lg->Prop}{e:Ending}(h:Wx P gl g v va rd w e w')(hr:∀k d' l',P k d' l'->r=({l' with bad:=(k==3)},d',k)):xZ r gl g v va rd w e w':=by obtain⟨k,iw,gj,d',l',hp,he,hst,hs,hrs,ho⟩:=h;have:=hr k d' l' hp;subst this;exact⟨he,iw,gj,hst,hs,hrs,ho⟩
theorem xZ.same{k:Nat}(h:dB w gl g v va vs d rd l)(hb:dP w w')(hr:r=(l,d,k)):xZ r gl g v va rd w (.returned (oT k)) w':=by subst hr;exact⟨rfl,va,vs,h.aa hb,Sep.refl w va,GA.refl h.rows.own,ag.ae hb _⟩
theorem ael(w:World):pR w (.slice none 0 0) [] []:=⟨dA _ _ _ _,zu⟩
theorem FF:(Tryz.prog.info? 387).map (·.size)=some 2:=zp
theorem SD:liesAt Tryz.prog Tryz.prog.depth 387 (2/Tryz.prog.cellsOf 387) 0 387 1=true:=zp
theorem aai:Tryz.prog.cellsOf 5=1:=zp
theorem Oy(args:Array Value)(w:World):(callFunc 290 args).run Tryz.prog w=((Extern.AbiNoEscape.same args).run Tryz.prog w).andThen λv w'=> .ok (.value v) w':=
 @run_callFunc_extern Tryz.prog 290 _ Extern.AbiNoEscape.same Tryz.func290 zp zp zp zp args w
structure Vn(w:World)(aq b:Nat)(used:Bool)(l:List UInt8):Prop where
 anB:aq<=b
 cells:∃vb,ay w b 387 [.pointer (if used then some ⟨b,0,none⟩else none),vb]/\w.ownsRow aq 5 1 vb l.length (bv l)
theorem Vn.aa{w w':World}{aq b:Nat}{used:Bool}{l:List UInt8}(h:Vn w aq b used l)(hb:dP w w'):Vn w' aq b used l:=by obtain⟨vb,h1,h2⟩:=h.cells;exact⟨h.anB,vb,h1.aa hb h1.lt,fm h2 hb⟩
theorem I9(w:World)(h0:w.cell? ⟨b,0,none⟩=some (.pointer (some ⟨b,0,none⟩))):
 bG 283 #[.pointer (some ⟨b,0,none⟩)] w λe w'=>e= .returned (.tuple #[])/\w=w':=by
 obtain⟨j,hj,_⟩:=tV.1 FF;have hq:=Lib.run_neq_ptr_same (P:=Tryz.prog) w ⟨b,0,none⟩ Tryz.underlying385 hj;go_enter Tryz.func283,Tryz.ntmps283;go_wp2;go_end0;exact⟨rfl,rfl⟩
theorem Ge(w:World)(vb:Value)(hb:ay w b 387 [.pointer none,vb]):
 bG 283 #[.pointer (some ⟨b,0,none⟩)] w λe w'=>e= .returned (.tuple #[])/\w.setCell ⟨b,0,none⟩ (.pointer (some ⟨b,0,none⟩))=w':=by
 obtain⟨j,hj,hjs⟩:=tV.1 FF;obtain⟨c0,c1,f0,f1⟩:=aO hb;have CD:w.shape? b=some (387,2):=by have h:=hb;unfold ay at h;simp[World.shape?,h]
 have k1:=Lib.run_to_unsafe (P:=Tryz.prog) w ⟨b,0,none⟩ Tryz.underlying385 Tryz.underlying295 hj (by rw[hjs];decide) CD (Nat.zero_lt_succ 1);have k2:=Lib.run_from_unsafe (P:=Tryz.prog) w ⟨b,0,none⟩ Tryz.underlying295 Tryz.underlying385 hj CD SD;have k3:(callFunc 290 #[.pointer (some ⟨b,0,none⟩)]).run Tryz.prog w= .ok (.value (.pointer (some ⟨b,0,none⟩))) w:=by rw[Oy,Lib.run_noEscape];rfl
 have hq:=Lib.run_neq_ptr_same (P:=Tryz.prog) (w.setCell ⟨b,0,none⟩ (.pointer (some ⟨b,0,none⟩))) ⟨b,0,none⟩ Tryz.underlying385 hj;go_enter Tryz.func283,Tryz.ntmps283;go_wp2;go_end0;exact⟨rfl,rfl⟩
theorem Rq{aq n b:Nat}{xs cs:List Value}(w0:World)(h:w0.ownsRow aq 5 1 v n xs)(hb:ay w0 b 387 cs):some b≠v.ownBlock:=λe=>by
 have:=(dc h e.symm).dv hb.dV
 grind
theorem GB(l:List UInt8):∀u∈bv l,u.oneCell'=true:=Pf l
theorem Jv(l t:List UInt8)(A:Option Addr)(aB:Nat)(w:World)(h:Vn w aq b used l)(hs:Src w A (bv t))(hA:∀p,A=some p->p.block≠b)(bU:l.length+t.length<=1000000)(de:aq<=w.heap.size):
 bG 278 #[.pointer (some ⟨b,0,none⟩),.slice A t.length aB] w λe w'=>e= .returned (.tuple #[.int .i64 (t.length:Nat),.nilIface])/\Vn w' aq b true (l++t)/\Below aq w w':=by
 obtain⟨i0,hi,nQ,kK,mY⟩:=bV Tryz.jm;obtain⟨dM,vb,hB,bI⟩:=h;obtain⟨w1,hcc,Fb,mU,ma,tK⟩:∃w1,bG 283 #[.pointer (some ⟨b,0,none⟩)] w (λe w'=>e= .returned (.tuple #[])/\w1=w')/\ay w1 b 387 [.pointer (some ⟨b,0,none⟩),vb]/\w1.ownsRow aq 5 1 vb l.length (bv l)/\Src w1 A (bv t)/\Below aq w w1:=by
  cases used with
  |true=>exact⟨w,I9 b w (hB.cell 0),hB,bI,hs,ak _ _⟩
  |false=>
   have ho:ag (·=b) w (w.setCell ⟨b,0,none⟩ (.pointer (some ⟨b,0,none⟩))):=(ag.refl (·=b) w).zs 0;have hk:bR (·=b) w [387]:=by rintro k rfl;exact⟨_,zu,hB.dV⟩
   exact⟨_,Ge b w vb hB,hB.bw 0 _,ho.F9 hk bI zj,ho.src hs (λp hp e=>hA p hp e),(ak _ _).setCell (p:=⟨b,0,none⟩) dM _⟩
 obtain⟨c0,c1,f0,f1⟩:=aO Fb;have hsz:=tK.size;have vH:(l.length+t.length<=maxLen):=by simp only[maxLen];omega
 have hroom:=iK (n:=l.length) (m:=t.length) zo;have adl:aq<=w1.heap.size:=ao de hsz;have XM:=Fb.lt;go_enter Tryz.func278,Tryz.ntmps278;go_wp2_with fail;refine hcc.mono ?_;rintro e w' ⟨rfl,rfl⟩
 go_wp2_with (at_builtin
              refine cQ _ rfl (.tmp 12) (.tmp 13) 29 rfl aq 5 i0 (.int .u8 0) 1 1 Tryz.underlying29 hi nQ kK mY rfl zj vb l.length (bv l) rfl mU A t.length aB (bv t) rfl zu ma (GB t) vH hroom adl ?_;intro v2 w2 ee dY Fk;obtain⟨A2,fC,rfl,_,_,_⟩:=bJ ee;have EC:=Fb.grown dY (Rq w1 mU Fb);obtain⟨d0,d1,g0,g1⟩:=aO EC;have eY:=EC;have aoy:=ee;have sI:=tK.grown dY adl (λk hk=>(mU.lt k hk).1);clear EC ee dY Fk c0 c1 f0 f1)
 go_ret2;refine⟨rfl,⟨dM,_,eY.bw 1 _,?_⟩,sI.setCell (p:=⟨b,1,none⟩) dM _⟩;have:=aoy;rw[<-nu]at this;rw[ax];exact ag.own ((ag.refl (·=b) w2).zs 1) this (λk hk e=>Rq w2 this eY (by rw[hk,e]))
theorem Tz(l:List UInt8)(w:World)(h:Vn w aq b used l)(h0:l≠ [])(bU:l.length<=1000000):
 bG 279 #[.pointer (some ⟨b,0,none⟩)] w λe w'=>e= .returned (.string (ar l))/\Below aq w w':=by
 obtain⟨dM,vb,hB,bI⟩:=h;have ZD:l.length≠0:=by simpa using h0
 obtain⟨g,aB,cur,rfl,IH,hg,wJ,hcm,hcs,aes⟩:∃g aB cur,vb= .slice (some ⟨g,0,none⟩) l.length aB/\aq<=g/\w.heap[g]?=some (.cells cur 5 (0,0))/\l.length<=aB/\aB<=maxLen/\cur.size=aB*1/\cur.toList.take (l.length*1)=bv l:=by
  rcases bI.2 with⟨_,hz⟩|⟨g,aB,cur,hv,r⟩
  ·exact absurd hz ZD
  ·exact⟨g,aB,cur,hv,r⟩
 have c1:w.drew.cell? ⟨b,1,none⟩=some (.slice (some ⟨g,0,none⟩) l.length aB):=(hB.drew).cell 1;have hSD:(Builtin.unsafeSliceData_ #[29] 392 #[.slice (some ⟨g,0,none⟩) l.length aB]).run Tryz.prog w.drew= .ok (.pointer (some ⟨g,0,none⟩)) w.drew:=
  Lib.run_unsafeSliceData_row _ _ _ _ _ _ zo
 have hUS:(Builtin.unsafeString_ #[392,3] 9 #[.pointer (some ⟨g,0,none⟩),.int .i64 l.length]).run Tryz.prog w.drew= .ok (.string (ar l)) (w.drew.freeze ⟨g,0,none⟩ l.length):=by refine Lib.run_unsafeString_row w.drew 392 3 9 5 Tryz.underlying392 aai g cur.size (by have hg':w.drew.heap[g]?=some (.cells cur 5 (0,0)):=hg;simp[World.shape?,hg']) l h0 zo (by unfold maxLen at hcm;omega) ?_;intro j x hx;have hj:j<l.length:=(cR.1 hx).1;have he:l[j]=x:=(cR.1 hx).2;exact bI.cells (g:=g) rfl j (.int .u8 x.toNat) (by rw[aiy l j hj,he])
 go_enter Tryz.func279,Tryz.ntmps279;go_wp2_with fail
 go_region
 all_goals
  go_wp2_with fail;go_ret;exact⟨rfl,Lib.below_freeze (Below.drew (ak aq w)) (p:=⟨g,0,none⟩) IH _⟩
namespace Pl
variable (l:Lg) (ps:List (Bool×List UInt8)) (p:List UInt8) (e i k:Nat) (more:Bool) (n:Nat)
theorem Vm:∀p:List UInt8,240*k<p.length->(pieces p)[k]?=some (decide (240<p.length-240*k),(p.drop (240*k)).take 240):=by
 induction k with
 |zero=>
  intro p h;rw[pieces];by_cases hs:p.length<=240
  ·rw[dif_pos hs];simp;exact⟨zo,(dx hs).symm⟩
  ·rw[dif_neg hs]
   grind
 |succ k ih=>intro p h;rw[pieces,dif_neg zo,aL,ih (p.drop 240) zw,bT,kL];rw[show 240+240*k=240*(k+1) by omega,show p.length-240-240*k=p.length-240*(k+1) by omega]
theorem acn:∀(i k:Nat),(l.laid i ps)[k]?=(ps[k]?).map λx=> .wr (l.dm (i+k)) (dh l.eE (i+k) x.1 x.2):=by
 induction ps with
 |nil=>intro i k;simp[Lg.laid]
 |cons a r ih=>
  intro i k;obtain⟨m,c⟩:=a
  match k with
  |0=>simp[Lg.laid]
  |k+1=>rw[Lg.laid,aL,ih,aL,show i+1+k=i+(k+1) by omega]
theorem TF:∀i,(l.laid i ps).length=ps.length:=by
 induction ps with
 |nil=>intro i;rfl
 |cons a r ih=>intro i;obtain⟨m,c⟩:=a;simp[Lg.laid,ih]
def j4:List UInt8:=76::(be 8 e++be 4 i++ [if more then 1 else 0]++be 2 n)
theorem xP(c:List UInt8):dh e i more c=j4 e i more c.length++c:=by simp[dh,j4]
theorem lK:(j4 e i more n).length=16:=by simp[j4,aG]
def dw:List Ch:=l.laid l.next (pieces p)
def aci:Lg:={l with next:=l.next+chunks p.length,all:=l.all++ [p]}
theorem oo(h:1<=p.length):(dw l p).length=chunks p.length:=by rw[dw,TF,KV p.length p zo h]
theorem SK{n k:Nat}(h:k<chunks n):240*k<n:=by unfold chunks at h;omega
def Fm:Ch:= .wr (l.dm (l.next+k)) (dh l.eE (l.next+k) (decide (240<p.length-240*k)) ((p.drop (240*k)).take 240))
theorem Au(h:k<chunks p.length):(dw l p)[k]?=some (Fm l p k):=by rw[dw,acn,Vm k p (SK h)];rfl
theorem JX(h:k<chunks p.length)(h1:1<=p.length):(dw l p).take (k+1)=(dw l p).take k++ [Fm l p k]:=by
 have hl:k<(dw l p).length:=by rw[oo l p h1];exact h
 have hg:=Au l p k h;rw[aF hl]at hg;rw[Bi hl,fB hg]
theorem Gg(h:k<chunks p.length)(h1:1<=p.length):dw l p=(dw l p).take k++Fm l p k::(dw l p).drop (k+1):=by
 have hl:k<(dw l p).length:=by rw[oo l p h1];exact h
 have hg:=Au l p k h;rw[aF hl]at hg
 conv=>lhs;rw[<-di k (dw l p),fT hl,fB hg]
end Pl
end Go.Proofs.YtbhpofdafhahgaaGreatDoor
